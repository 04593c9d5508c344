import Derived.Test.YtmfbkbjelikmoaaFi5
namespace Go.FI
open Go.RowKit

section
variable {P : Program} {X : Ctx} {E : Env} {st : St} {a : Act} {w : World}

theorem exec_of {o : Oper} {s : Sem Value} {v : Value} {w' : World} (he : execOp a.eval o = (do pure (.value (← s)))) (hr : s.run P w = .ok v w') : (execOp a.eval o).run P w = .ok (.value v) w' := by
  rw [he]; simp [hr]

/-! ### Moves, choices, tuples -/
theorem move_ok {o : Oper} {x : Operand} (ho : o.op = .move x) : ValOK P o st (evl st.tmps x) := fun X E a w hs =>
  ⟨a.eval x, by simp [execOp, ho], evl_rel hs x⟩
theorem assign_ok {o : Oper} {x : Operand} (ho : o.op = .assign x) : ValOK P o st (evl st.tmps x) := fun X E a w hs =>
  ⟨a.eval x, by simp [execOp, ho], evl_rel hs x⟩
def evPick (c x y : DV) : Option DV :=
  match c with
  | .pd (.bool true) => some x
  | .pd (.bool false) => some y
  | _ => none
theorem pick_ok {o : Oper} {c x y : Operand} {d : DV} (ho : o.op = .pick c x y) (h : evPick (evl st.tmps c) (evl st.tmps x) (evl st.tmps y) = some d) : ValOK P o st d := by
  intro X E a w hs
  have hc := evl_rel hs c
  unfold evPick at h
  split at h
  · rename_i hd
    rw [hd] at hc
    simp only [DV.rel, PD.rel] at hc
    obtain rfl := Option.some.inj h
    exact ⟨a.eval x, by simp [execOp, ho, hc, asBool], evl_rel hs x⟩
  · rename_i hd
    rw [hd] at hc
    simp only [DV.rel, PD.rel] at hc
    obtain rfl := Option.some.inj h
    exact ⟨a.eval y, by simp [execOp, ho, hc, asBool], evl_rel hs y⟩
  · cases h
def evExtract (x : DV) (i : Nat) : Option DV :=
  match x with
  | .tup cs => cs[i]?
  | .pd (.tup cs) => match cs[i]? with | some p => some (.pd p) | none => none
  | _ => none
theorem extract_ok {o : Oper} {x : Operand} {i : Nat} {d : DV} (ho : o.op = .extract x i) (h : evExtract (evl st.tmps x) i = some d) : ValOK P o st d := by
  intro X E a w hs
  have hc := evl_rel hs x
  unfold evExtract at h
  split at h
  · rename_i cs hd
    rw [hd] at hc
    simp only [DV.rel] at hc
    obtain ⟨vs, hv, hl⟩ := hc
    obtain ⟨v, hi, hr⟩ := drelL_get i d hl h
    have hi' : vs[i]? = some v := by simpa using hi
    exact ⟨v, by simp [execOp, ho, hv, Instr.extract, hi'], hr⟩
  · rename_i cs hd
    rw [hd] at hc
    simp only [DV.rel, PD.rel] at hc
    obtain ⟨vs, hv, hl⟩ := hc
    split at h
    · rename_i p hp
      obtain rfl := Option.some.inj h
      obtain ⟨v, hi, hr⟩ := relL_get i p hl hp
      have hi' : vs[i]? = some v := by simpa using hi
      exact ⟨v, by simp [execOp, ho, hv, Instr.extract, hi'], by simpa [DV.rel] using hr⟩
    · cases h
  · cases h

/-! ### Fields -/
def fieldOff (P : Program) (s : TypeId) (f : Nat) : Option Nat :=
  match P.underlying s with
  | some (.struct fs) => match fs[f]? with
    | some fd => match P.info? fd.type with
      | some i => match i.size with
        | 0 => none
        | _ + 1 => some fd.offset
      | none => none
    | none => none
  | _ => none
def evFieldAddr (x : DV) (off : Nat) : Option DV :=
  match x with
  | .ptr id o => some (.ptr id (o + off))
  | .dptr cs o => some (.dptr cs (o + off))
  | .rptr id i sz o => some (.rptr id i sz (o + off))
  | _ => none
theorem run_field_off {s : TypeId} {f off : Nat} (h : fieldOff P s f = some off) (b o : Nat) : (Instr.fieldAt s (.pointer (some ⟨b, o, none⟩)) f).run P w = .ok (.pointer (some ⟨b, o + off, none⟩)) w := by
  unfold fieldOff at h
  split at h
  · rename_i fs hs
    split at h
    · rename_i fd hf
      split at h
      · rename_i i hi
        split at h
        · cases h
        · rename_i hz
          obtain rfl := Option.some.inj h
          exact run_fieldAt w hs hf hi (by omega) b o
      · cases h
    · cases h
  · cases h
theorem fieldAddr_ok {o : Oper} {s : TypeId} {x : Operand} {f off : Nat} {d : DV} (ho : o.op = .fieldAddr s x f) (hf : fieldOff P s f = some off) (h : evFieldAddr (evl st.tmps x) off = some d) : ValOK P o st d := by
  intro X E a w hs
  have hc := evl_rel hs x
  unfold evFieldAddr at h
  split at h
  · rename_i id o' hd
    rw [hd] at hc
    obtain rfl := Option.some.inj h
    simp only [DV.rel] at hc ⊢
    obtain ⟨b, hm, hv⟩ := hc
    exact ⟨.pointer (some ⟨b, o' + off, none⟩), exec_of (by simp [execOp, ho]; rfl) (by rw [hv]; exact run_field_off hf b o'), b, hm, rfl⟩
  · rename_i cs o' hd
    rw [hd] at hc
    obtain rfl := Option.some.inj h
    simp only [DV.rel] at hc ⊢
    obtain ⟨b, q, hv, hb, hx⟩ := hc
    exact ⟨.pointer (some ⟨b, q + o' + off, none⟩), exec_of (by simp [execOp, ho]; rfl) (by rw [hv]; exact run_field_off hf b _), b, q, by rw [Nat.add_assoc], hb, hx⟩
  · rename_i id i sz o' hd
    rw [hd] at hc
    obtain rfl := Option.some.inj h
    simp only [DV.rel] at hc ⊢
    obtain ⟨b, l, c, hm, hv⟩ := hc
    exact ⟨.pointer (some ⟨b, i * sz + o' + off, none⟩), exec_of (by simp [execOp, ho]; rfl) (by rw [hv]; exact run_field_off hf b _), b, l, c, hm, by rw [Nat.add_assoc]⟩
  · cases h

/-! ### Loads -/
def pdL : List DV → Option (List PD)
  | [] => some []
  | .pd p :: ds => match pdL ds with | some ps => some (p :: ps) | none => none
  | _ :: _ => none
theorem pdL_rel : ∀ {ds : List DV} {ps : List PD} {vs : List Value}, pdL ds = some ps → drelL E w ds vs → relL E.I w ps vs
  | [], ps, vs, h, hr => by obtain rfl := Option.some.inj h; simpa [drelL, relL] using hr
  | d :: ds, ps, vs, h, hr => by
    cases d with
    | pd p =>
      simp only [pdL] at h
      split at h
      · rename_i qs hq
        obtain rfl := Option.some.inj h
        simp only [drelL, DV.rel] at hr
        obtain ⟨v, vs', rfl, hv, hr'⟩ := hr
        simp only [relL]
        exact ⟨v, vs', rfl, hv, pdL_rel hq hr'⟩
      · cases h
    | _ => simp [pdL] at h

/-- What stands from a place on: as many cells as the type has. -/
def evCells (agg : Bool) (n : Nat) (cs : List DV) (off : Nat) (h : Hint) : Option (DV × Prop) :=
  match agg with
  | true => match pdL ((cs.drop off).take n) with
    | some ps => some (.pd (.agg ps), ps.length = n)
    | none => none
  | false => match h with
    | .cell d => some (d, cs[off]? = some d)
    | _ => match cs[off]? with
      | some d => some (d, True)
      | none => none
def evLoad (agg : Bool) (n : Nat) (H : List Ob) (x : DV) (h : Hint) : Option (DV × Prop) :=
  match x with
  | .ptr id off => match H[id]? with
    | some (.cells _ cs) => evCells agg n cs off h
    | _ => none
  | .dptr E off => evCells agg n (E.map DV.pd) off h
  | .rptr id i sz off => match H[id]?, h with
    | some (.row _ sz' es), .rd E => match sz == sz', evCells agg n (E.map DV.pd) off .n with
      | true, some (d, O) => some (d, es[i]? = some E ∧ O)
      | _, _ => none
    | _, _ => none
  | _ => none
def tyInfo (P : Program) (t : TypeId) : Option (Bool × Nat) :=
  match P.underlying t, P.info? t with
  | some d, some i => some (aggD d, i.size)
  | _, _ => none
theorem tyInfo_get {t : TypeId} {g : Bool} {n : Nat} (h : tyInfo P t = some (g, n)) : ∃ d i, P.underlying t = some d ∧ P.info? t = some i ∧ aggD d = g ∧ i.size = n := by
  unfold tyInfo at h
  split at h
  · rename_i d i hd hi
    simp only [Option.some.injEq, Prod.mk.injEq] at h
    exact ⟨d, i, hd, hi, h.1, h.2⟩
  · cases h
/-- A load where the cells from b, o on read as cs. -/
theorem load_cells {t : TypeId} {g : Bool} {n : Nat} (ht : tyInfo P t = some (g, n)) {cs : List DV} {off : Nat} {h : Hint} {d : DV} {O : Prop} (hev : evCells g n cs off h = some (d, O)) (hO : O) (b o : Nat) (vs : List Value)
    (hvs : drelL E w cs vs) (hcell : ∀ j v, vs[j]? = some v → w.cell? ⟨b, o + j, none⟩ = some v) : ∃ v, (loadVar t ⟨b, o + off, none⟩).run P w = .ok v w ∧ d.rel E w v := by
  obtain ⟨td, i, hd, hi, hg, hn⟩ := tyInfo_get ht
  subst hg hn
  unfold evCells at hev
  split at hev
  · rename_i hagg
    split at hev
    · rename_i ps hp
      simp only [Option.some.injEq, Prod.mk.injEq] at hev
      obtain ⟨rfl, rfl⟩ := hev
      have hr := pdL_rel hp (drelL_take i.size (drelL_drop off hvs))
      refine ⟨_, run_loadAgg w hd hagg hi b (o + off) ((vs.drop off).take i.size) (by rw [relL_length hr]; exact hO) (fun j v hj => ?_), ?_⟩
      · rw [List.getElem?_take] at hj
        split at hj
        · rw [List.getElem?_drop] at hj
          rw [Nat.add_assoc]
          exact hcell _ v hj
        · cases hj
      · simp only [DV.rel, PD.rel]
        exact ⟨_, rfl, hr⟩
    · cases hev
  · rename_i hagg
    split at hev
    · simp only [Option.some.injEq, Prod.mk.injEq] at hev
      obtain ⟨rfl, rfl⟩ := hev
      obtain ⟨v, hv, hr⟩ := drelL_get off _ hvs hO
      exact ⟨v, run_loadOne w hd hagg (hcell off v hv), hr⟩
    · split at hev
      · rename_i hc
        simp only [Option.some.injEq, Prod.mk.injEq] at hev
        obtain ⟨rfl, rfl⟩ := hev
        obtain ⟨v, hv, hr⟩ := drelL_get off _ hvs hc
        exact ⟨v, run_loadOne w hd hagg (hcell off v hv), hr⟩
      · cases hev
theorem flatten_at : ∀ {es : List (List PD)} {sz : Nat} (i : Nat) (x : List PD), (∀ e ∈ es, e.length = sz) → es[i]? = some x → es.flatten.drop (i * sz) = x ++ (es.drop (i + 1)).flatten
  | [], _, _, _, _, h => by simp at h
  | e :: es, sz, i, x, hl, h => by
    match i with
    | 0 => simp at h; subst h; simp
    | i + 1 =>
      have he : e.length = sz := hl e (by simp)
      have := flatten_at i x (fun e' h' => hl e' (List.mem_cons_of_mem _ h')) (by simpa using h)
      rw [List.flatten_cons, Nat.succ_mul, Nat.add_comm, ← List.drop_drop, List.drop_left' he]
      simpa using this
/-- The cells of an element of a row. -/
theorem row_elem {e : TypeId} {sz : Nat} {es : List (List PD)} {id i b l c : Nat} {x : List PD} (hr : (Ob.row e sz es).rel E w id) (hm : E.mu id = .slice (some ⟨b, 0, none⟩) l c) (hx : es[i]? = some x) :
    ∃ vs : List Value, relL E.I w x vs ∧ (∀ j v, vs[j]? = some v → w.cell? ⟨b, i * sz + j, none⟩ = some v) ∧ vs.length = sz := by
  obtain ⟨xs, ho, hxs, hl, h1⟩ := hr
  rw [hm] at ho
  obtain ⟨rfl⟩ : l = es.length := by
    rcases ho.2 with ⟨h, _⟩ | ⟨g, cap, cur, h, _⟩
    · cases h
    · injection h
  have hsz : x.length = sz := hl x (List.mem_of_getElem? hx)
  have hi : i < es.length := (List.getElem?_eq_some_iff.1 hx).1
  have hd := relL_drop (i * sz) hxs
  rw [flatten_at i x hl hx] at hd
  obtain ⟨us, ws, he, hu, _⟩ := relL_append_inv hd
  have hul := relL_length hu
  refine ⟨us, hu, fun j v hj => ?_, by rw [hul, hsz]⟩
  have hjl : j < us.length := (List.getElem?_eq_some_iff.1 hj).1
  have hlt : i * sz + j < es.length * sz := by
    have : (i + 1) * sz ≤ es.length * sz := Nat.mul_le_mul_right _ hi
    rw [Nat.succ_mul] at this
    omega
  rw [ho.cellAt (i * sz + j) hlt]
  have : (xs.drop (i * sz))[j]? = some v := by rw [he, List.getElem?_append_left hjl]; exact hj
  rwa [List.getElem?_drop] at this
theorem load_ok {o : Oper} {t : TypeId} {x : Operand} {g : Bool} {n : Nat} {h : Hint} {d : DV} {O : Prop} (ho : o.op = .load t x) (ht : tyInfo P t = some (g, n))
    (hev : evLoad g n st.heap (evl st.tmps x) h = some (d, O)) (hO : O) : ValOK P o st d := by
  intro X E a w hs
  have hc := evl_rel hs x
  have key : ∀ b off, a.eval x = .pointer (some ⟨b, off, none⟩) → (∃ v, (loadVar t ⟨b, off, none⟩).run P w = .ok v w ∧ d.rel E w v) → ∃ v, (execOp a.eval o).run P w = .ok (.value v) w ∧ d.rel E w v := by
    rintro b off hv ⟨v, hr, hd⟩
    exact ⟨v, exec_of (by simp [execOp, ho]; rfl) (by simp [Instr.loadAt, Instr.sureAddr, hv, hr]), hd⟩
  unfold evLoad at hev
  split at hev
  · rename_i id off hd
    rw [hd] at hc
    split at hev
    · rename_i e cs hH
      obtain ⟨b, hm, hv⟩ := hc
      obtain ⟨b', C, hm', hh, hcs⟩ := hs.heap.ob id _ hH
      obtain rfl : b = b' := by rw [hm] at hm'; injection hm' with h; injection h with h; injection h
      refine key b off hv ?_
      have := load_cells ht hev hO b 0 C.toList hcs (fun j v hj => by
        rw [Nat.zero_add, cell_of_row w b j C e (0, 0) hh]
        simpa using hj)
      simpa using this
    · cases hev
  · rename_i cs off hd
    rw [hd] at hc
    obtain ⟨b, q, hv, hb, hx⟩ := hc
    obtain ⟨vs, h1, h2, _⟩ := relAt_cells hx
    refine key b (q + off) hv (load_cells ht hev hO b q vs (drelL_pd.2 h1) h2)
  · rename_i id i sz off hd
    rw [hd] at hc
    split at hev
    · rename_i e sz' es x hH
      split at hev
      · rename_i d' O' hsz hev'
        simp only [Option.some.injEq, Prod.mk.injEq] at hev
        obtain ⟨rfl, rfl⟩ := hev
        obtain ⟨b, l, c, hm, hv⟩ := hc
        obtain rfl : sz = sz' := by simpa using hsz
        obtain ⟨vs, h1, h2, _⟩ := row_elem (hs.heap.ob id _ hH) hm hO.1
        exact key b (i * sz + off) hv (load_cells ht hev' hO.2 b (i * sz) vs (drelL_pd.2 h1) h2)
      · cases hev
    · cases hev
  · cases hev
end
end Go.FI
