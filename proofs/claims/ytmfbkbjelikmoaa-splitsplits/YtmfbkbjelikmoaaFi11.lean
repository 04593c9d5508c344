import Derived.Test.YtmfbkbjelikmoaaFi10
namespace Go.FI
open Go.RowKit

section
variable {P : Program} {X : Ctx} {E : Env} {st : St} {a : Act} {w : World}

def freeOb (st : St) (id : Nat) : Bool :=
  match pinned st.pins id, st.heap[id]? with
  | false, some .dead => true
  | false, none => id == st.heap.length
  | _, _ => false
theorem freeOb_len {st : St} {id : Nat} (h : freeOb st id = true) : id ≤ st.heap.length := by
  unfold freeOb at h
  split at h
  · rename_i hd; exact Nat.le_of_lt (List.getElem?_eq_some_iff.1 hd).1
  · have : id = st.heap.length := by simpa using h
    omega
  · cases h
theorem freeOb_pin {st : St} {id : Nat} (h : freeOb st id = true) : pinned st.pins id = false := by
  unfold freeOb at h
  split at h
  · assumption
  · assumption
  · cases h
theorem freeOb_dead {st : St} {id : Nat} (h : freeOb st id = true) (x : Ob) (hx : st.heap[id]? = some x) : x.live = false := by
  have hp := freeOb_pin h
  unfold freeOb at h
  rw [hx, hp] at h
  cases x <;> first | rfl | cases h

/-- The state when an object is made anew, or has moved. -/
def St.putO (st : St) (id : Nat) (ob : Ob) : St := ⟨st.tmps.map (scrub (· == id)), putOb (st.heap.map (Ob.scrub (· == id))) id ob, st.pins⟩
theorem StRel.remap (hs : StRel X E st a w) {id : Nat} (hpin : pinned st.pins id = false) (hlen : id ≤ st.heap.length) {w' : World} {row : Option Nat} {v : Value} {ob : Ob}
    (hrow : ∀ b, row = some b → ∃ x, st.heap[id]? = some x ∧ x.live = true ∧ blk (E.mu id) = some b) (hg : w.grownBy w' row) (hob : ob.rel (E.put id v) w' id)
    (hb : ∀ b, blk v = some b → w.heap.size ≤ b ∨ row = some b) : StRel X (E.put id v) (st.putO id ob) a w' := by
  refine Step.st (E := E) (E' := E.put id v) (w := w) (w' := w') (H := st.heap) (q := (· == id)) (id := id) (ob := ob) (ts := st.tmps) (ps := st.pins) ⟨⟨fun _ h => h, fun b hbI => ?_, fun i hi => ?_⟩, fun i hi => by simpa using hi, hlen, hg.size, hg.os, hg.tape, hg.output, ?_, hob, ?_, fun b h => .inl h⟩ hs (fun i hi => by
    cases hq : i == id with
    | false => rfl
    | true =>
      obtain rfl := eq_of_beq hq
      rw [hpin] at hi
      cases hi)
  · refine hg.block b (hs.heap.bnd b hbI) (fun e => ?_)
    obtain ⟨x, hx, hl, hbb⟩ := hrow b e.symm
    exact hs.heap.off id x b hx hl hbb hbI
  · exact Env.put_other _ _ (by simpa using hi)
  · intro b hlt hne
    refine hg.block b hlt (fun e => ?_)
    obtain ⟨x, hx, hl, hbb⟩ := hrow b e.symm
    exact hne x hx hl hbb
  · intro b _ hbv
    rw [Env.put_same] at hbv
    rcases hb b hbv with h | h
    · exact .inl h
    · exact .inr (hrow b h)
theorem StRel.fresh (hs : StRel X E st a w) {id : Nat} (hid : freeOb st id = true) {w' : World} {v : Value} {ob : Ob} (hg : w.grownBy w' none) (hob : ob.rel (E.put id v) w' id)
    (hb : ∀ b, blk v = some b → w.heap.size ≤ b) : StRel X (E.put id v) (st.putO id ob) a w' :=
  hs.remap (freeOb_pin hid) (freeOb_len hid) (row := none) (fun b h => by cases h) hg hob (fun b h => .inl (hb b h))

/-- What the state's data say behind a new block. -/
theorem fresh_keep (hs : StRel X E st a w) (id : Nat) (v : Value) {w' : World} (hg : w.grownBy w' none) : Keep E.I w (E.put id v).I w' := fun b hb => ⟨hb, hg.block b (hs.heap.bnd b hb) (by simp)⟩
theorem drelL_fresh (hs : StRel X E st a w) {id : Nat} {v : Value} {w' : World} (hg : w.grownBy w' none) {ds : List DV} {vs : List Value} (h : drelL E w ds vs) :
    drelL (E.put id v) w' (ds.map (scrub (· == id))) vs := by
  have hm : Moves E (E.put id v) w w' (· == id) := ⟨fun _ h => h, fun b hb => hg.block b (hs.heap.bnd b hb) (by simp), fun i hi => Env.put_other _ _ (by simpa using hi)⟩
  exact drelL_scrub hm h
theorem saysL_scrub {id : Nat} {ds : List DV} (h : saysL (· == id) ds = false) : ds.map (scrub (· == id)) = ds := by
  induction ds with
  | nil => rfl
  | cons d ds ih =>
    simp only [saysL, Bool.or_eq_false_iff] at h
    simp [scrub, h.1, ih h.2]

/-! ### A variable -/
def cvs (vs : List Value) : List DV := vs.map cv
theorem cvs_rel (E : Env) (w : World) : ∀ (vs : List Value), drelL E w (cvs vs) vs
  | [] => by simp [cvs, drelL]
  | v :: vs => by
    simp only [cvs, List.map_cons, drelL]
    exact ⟨v, vs, rfl, cv_rel E w v, cvs_rel E w vs⟩
def zeroOf (P : Program) (t : TypeId) : Option Value := match P.info? t with | some i => i.zero | none => none
theorem run_zeroOf {t : TypeId} {z : Value} (h : zeroOf P t = some z) (w : World) : (zeroValue t).run P w = .ok z w := by
  unfold zeroOf at h
  split at h
  · rename_i i hi
    simp [zeroValue, typeInfo, hi, h]
  · cases h
def evAlloc (P : Program) (t : TypeId) (st : St) (id : Nat) : Option (DV × St) :=
  match zeroOf P t, freeOb st id with
  | some z, true => some (.ptr id 0, st.putO id (.cells t (cvs z.cells.toList)))
  | _, _ => none
theorem run_newVar (t : TypeId) (v : Value) : (newVar t v).run P w = .ok ⟨w.heap.size, 0, none⟩ (w.alloc (.cells v.cells t)) := by
  unfold newVar newRow
  rw [Sem.run_bind, run_newObj]
  rfl
theorem alloc_ok {o : Oper} {t : TypeId} {id : Nat} {d : DV} {st' : St} (ho : o.op = .alloc t) (he : evAlloc P t st id = some (d, st')) : OpOK P o st d st' := by
  unfold evAlloc at he
  split at he
  · rename_i z hz hid
    simp only [Option.some.injEq, Prod.mk.injEq] at he
    obtain ⟨rfl, rfl⟩ := he
    refine val_op fun X E a w hs => ?_
    have hg := World.grownBy_alloc w (.cells z.cells t) none
    refine ⟨.pointer (some ⟨w.heap.size, 0, none⟩), E.put id (.pointer (some ⟨w.heap.size, 0, none⟩)), w.alloc (.cells z.cells t), ?_, ?_, hs.fresh hid hg ?_ ?_⟩
    · simp [execOp, ho, Instr.alloc, run_zeroOf hz, run_newVar]
    · simp only [DV.rel]; exact ⟨_, Env.put_same _ _ _, rfl⟩
    · exact ⟨_, z.cells, Env.put_same _ _ _, heap_alloc_new w _, cvs_rel _ _ _⟩
    · intro b hb
      simp only [blk, Option.some.injEq] at hb
      omega
  · cases he
def evBox (t : TypeId) (st : St) (v : DV) (id : Nat) : Option (DV × St) :=
  match cellsV v, freeOb st id with
  | some cs, true => some (.ptr id 0, st.putO id (.cells t (cs.map (scrub (· == id)))))
  | _, _ => none
theorem box_ok {o : Oper} {t : TypeId} {x : Operand} {id : Nat} {d : DV} {st' : St} (ho : o.op = .box t x) (he : evBox t st (evl st.tmps x) id = some (d, st')) : OpOK P o st d st' := by
  unfold evBox at he
  split at he
  · rename_i cs hcs hid
    simp only [Option.some.injEq, Prod.mk.injEq] at he
    obtain ⟨rfl, rfl⟩ := he
    refine val_op fun X E a w hs => ?_
    have hg := World.grownBy_alloc w (.cells (a.eval x).cells t) none
    refine ⟨.pointer (some ⟨w.heap.size, 0, none⟩), E.put id (.pointer (some ⟨w.heap.size, 0, none⟩)), w.alloc (.cells (a.eval x).cells t), ?_, ?_, hs.fresh hid hg ?_ ?_⟩
    · simp [execOp, ho, Instr.box, run_newVar]
    · simp only [DV.rel]; exact ⟨_, Env.put_same _ _ _, rfl⟩
    · exact ⟨_, _, Env.put_same _ _ _, heap_alloc_new w _, drelL_fresh hs hg (cellsV_rel hcs (evl_rel hs x)).1⟩
    · intro b hb
      simp only [blk, Option.some.injEq] at hb
      omega
  · cases he

/-! ### Literals -/
def cvPs : List Value → Option (List PD) := cvL
theorem foldl_cut : ∀ (vs : List Value) (cells : Array Value) (off k : Nat), off + k + vs.length ≤ cells.size →
    ((vs.zipIdx k).foldl (fun cs (c, j) => cs.setIfInBounds (off + j) c) cells).toList = cutL cells.toList (off + k) vs
  | [], cells, off, k, _ => by simp [cutL]
  | v :: vs, cells, off, k, h => by
    simp only [List.zipIdx_cons, List.foldl_cons]
    have ih := foldl_cut vs (cells.setIfInBounds (off + k) v) off (k + 1) (by simp at h ⊢; omega)
    rw [ih, Array.toList_setIfInBounds]
    have hlt : off + k < cells.toList.length := by simp at h ⊢; omega
    unfold cutL
    simp only [List.length_cons]
    rw [show off + (k + 1) = off + k + 1 by omega, List.take_add_one, List.getElem?_set_self hlt, List.take_set_of_le (Nat.le_refl _), List.drop_set_of_lt (by omega)]
    simp only [Option.toList_some, List.append_assoc, List.singleton_append]
    rw [show off + k + 1 + vs.length = off + k + (vs.length + 1) by omega]
/-- Parts laid into zero cells. -/
def fillA (place : Nat → Option (Nat × Nat)) (cs : List PD) : List (Nat × DV) → Option (List PD)
  | [] => some cs
  | (i, d) :: rest =>
    match place i, cellsP d with
    | some (off, size), some ps => match ps.length == size, Nat.ble (off + ps.length) cs.length with
      | true, true => fillA place (cutL cs off ps) rest
      | _, _ => none
    | _, _ => none
theorem fillA_sound {place : Nat → Option (Nat × Nat)} : ∀ {parts : List (Nat × DV)} {vparts : List (Nat × Value)} {cs cs' : List PD} {cells : Array Value}, fillA place cs parts = some cs' → relL E.I w cs cells.toList →
    (vparts.map (·.1) = parts.map (·.1)) → drelL E w (parts.map (·.2)) (vparts.map (·.2)) → ∃ cells', Instr.fill place cells vparts = some cells' ∧ relL E.I w cs' cells'.toList ∧
      ((∀ u ∈ cells.toList, u.oneCell' = true) → ∀ u ∈ cells'.toList, u.oneCell' = true)
  | [], vparts, cs, cs', cells, h, hr, hi, _ => by
    obtain rfl := Option.some.inj h
    obtain rfl : vparts = [] := by simpa using hi
    exact ⟨cells, rfl, hr, fun h => h⟩
  | (i, d) :: parts, [], cs, cs', cells, h, hr, hi, _ => by simp at hi
  | (i, d) :: parts, (i', v) :: vparts, cs, cs', cells, h, hr, hi, hd => by
    simp only [List.map_cons, List.cons.injEq] at hi
    obtain ⟨rfl, hi⟩ := hi
    simp only [List.map_cons, drelL] at hd
    obtain ⟨v', vs', hv', hdv, hd'⟩ := hd
    simp only [List.cons.injEq] at hv'
    obtain ⟨rfl, rfl⟩ := hv'
    unfold fillA at h
    split at h
    · rename_i off size ps hp hc
      split at h
      · rename_i hsz hfit
        obtain ⟨h1, hone⟩ := cellsP_rel hc hdv
        have hvl : v.cells.size = ps.length := by simpa using relL_length h1
        have hsz' : ps.length = size := by simpa using hsz
        have hfit' := Nat.le_of_ble_eq_true hfit
        have hcl : cells.size = cs.length := by simpa using relL_length hr
        unfold Instr.fill
        rw [hp]
        simp only
        have hcond : (decide (v.cells.size ≠ size) || decide (off + v.cells.size > cells.size)) = false := by
          rw [hvl, hcl, hsz']
          simp
          omega
        rw [hcond]
        simp only [Bool.false_eq_true, if_false]
        have hz : v.cells.zipIdx.foldl (fun cs (c, j) => cs.setIfInBounds (off + j) c) cells = (cutL cells.toList off v.cells.toList).toArray := by
          have := foldl_cut v.cells.toList cells off 0 (by simp; omega)
          apply Array.ext'
          rw [← Array.foldl_toList, Array.toList_zipIdx, this]
          simp
        rw [hz]
        obtain ⟨cells', h2, h3, h4⟩ := fillA_sound h (cells := (cutL cells.toList off v.cells.toList).toArray) (relL_cut off hr h1) hi hd'
        refine ⟨cells', h2, h3, fun hu => h4 fun u hu' => ?_⟩
        unfold cutL at hu'
        simp only [List.mem_append] at hu'
        rcases hu' with (h5 | h5) | h5
        · exact hu u (List.mem_of_mem_take h5)
        · exact hone u h5
        · exact hu u (List.mem_of_mem_drop h5)
      · cases h
    · cases h
end
end Go.FI
