import Derived.Test.YtmfbkbjelikmoaaFi11
import Derived.Laws.Tables
import Derived.Laws.MakeOwn
namespace Go.FI
open Go.RowKit

section
variable {P : Program} {X : Ctx} {E : Env} {st : St} {a : Act} {w : World}

/-! ### Struct and array literals -/
def evParts (ts : List DV) : List (Nat × Operand) → List (Nat × DV)
  | [] => []
  | (i, x) :: r => (i, evl ts x) :: evParts ts r
theorem evParts_rel (hs : StRel X E st a w) : ∀ (ps : List (Nat × Operand)),
    ((ps.map fun (i, x) => (i, a.eval x)).map (·.1) = (evParts st.tmps ps).map (·.1)) ∧ drelL E w ((evParts st.tmps ps).map (·.2)) ((ps.map fun (i, x) => (i, a.eval x)).map (·.2))
  | [] => by simp [evParts, drelL]
  | (i, x) :: r => by
    obtain ⟨h1, h2⟩ := evParts_rel hs r
    refine ⟨by simp only [List.map_cons, evParts]; rw [h1], ?_⟩
    simp only [List.map_cons, evParts, drelL]
    exact ⟨_, _, rfl, evl_rel hs x, h2⟩
def placesL (P : Program) : List Field → Option (List (Nat × Nat))
  | [] => some []
  | f :: fs => match P.info? f.type, placesL P fs with
    | some i, some ps => some ((f.offset, i.size) :: ps)
    | _, _ => none
theorem placesL_eq : ∀ {fs : List Field} {ps : List (Nat × Nat)}, placesL P fs = some ps → fs.mapM (fun f => (P.info? f.type).map fun i => (f.offset, i.size)) = some ps
  | [], ps, h => by simpa [placesL] using h
  | f :: fs, ps, h => by
    unfold placesL at h
    split at h
    · rename_i i qs hi hq
      obtain rfl := Option.some.inj h
      simp [hi, placesL_eq hq]
    · cases h
def evBuild (P : Program) (t : TypeId) (parts : List (Nat × DV)) : Option DV :=
  match zeroOf P t, P.underlying t with
  | some z, some (.struct fs) => match cvL z.cells.toList, placesL P fs.toList with
    | some cs, some ps => match fillA (ps[·]?) cs parts with
      | some cs' => some (.pd (.agg cs'))
      | none => none
    | _, _ => none
  | some z, some (.array _ e) => match cvL z.cells.toList, P.info? e with
    | some cs, some i => match fillA (fun j => some (j * i.size, i.size)) cs parts with
      | some cs' => some (.pd (.agg cs'))
      | none => none
    | _, _ => none
  | _, _ => none
theorem build_ok {o : Oper} {t : TypeId} {parts : Array (Nat × Operand)} {d : DV} (ho : o.op = .build t parts) (he : evBuild P t (evParts st.tmps parts.toList) = some d) : ValOK P o st d := by
  intro X E a w hs
  obtain ⟨h1, h2⟩ := evParts_rel hs parts.toList
  have fin : ∀ cells, P.built t (parts.map fun (i, x) => (i, a.eval x)).toList = some cells → d.rel E w (.agg cells) → ∃ v, (execOp a.eval o).run P w = .ok (.value v) w ∧ d.rel E w v := by
    intro cells hc hd
    refine ⟨.agg cells, ?_, hd⟩
    simp only [execOp, ho, Sem.run_bind, run_build w t _ cells hc, Result.andThen_ok, Sem.run_pure]
  unfold evBuild at he
  split at he
  · rename_i z fs hz hu
    split at he
    · rename_i cs ps hcs hps
      split at he
      · rename_i cs' hf
        obtain rfl := Option.some.inj he
        obtain ⟨cells', h3, h4, _⟩ := fillA_sound (vparts := parts.toList.map fun (i, x) => (i, a.eval x)) hf (cvL_rel hcs) h1 h2
        unfold zeroOf at hz
        split at hz
        · rename_i i hi
          refine fin cells' ?_ (by simp only [DV.rel, PD.rel]; exact ⟨_, rfl, h4⟩)
          simp only [Program.built, hi, hu, hz, placesL_eq hps, Array.toList_map]
          simpa using h3
        · cases hz
      · cases he
    · cases he
  · rename_i z n e hz hu
    split at he
    · rename_i cs ie hcs hie
      split at he
      · rename_i cs' hf
        obtain rfl := Option.some.inj he
        obtain ⟨cells', h3, h4, _⟩ := fillA_sound (vparts := parts.toList.map fun (i, x) => (i, a.eval x)) hf (cvL_rel hcs) h1 h2
        unfold zeroOf at hz
        split at hz
        · rename_i i hi
          refine fin cells' ?_ (by simp only [DV.rel, PD.rel]; exact ⟨_, rfl, h4⟩)
          simp only [Program.built, hi, hu, hz, hie, Array.toList_map]
          exact h3
        · cases hz
      · cases he
    · cases he
  · cases he

/-! ### Slice literals, make -/
def chunks (sz : Nat) : Nat → List PD → List (List PD)
  | 0, _ => []
  | n + 1, cs => cs.take sz :: chunks sz n (cs.drop sz)
theorem chunks_flat (sz : Nat) : ∀ (n : Nat) (cs : List PD), cs.length = n * sz → (chunks sz n cs).flatten = cs ∧ (chunks sz n cs).length = n ∧ ∀ e ∈ chunks sz n cs, e.length = sz
  | 0, cs, h => by
    obtain rfl := List.eq_nil_of_length_eq_zero (by simpa using h : cs.length = 0)
    simp [chunks]
  | n + 1, cs, h => by
    rw [Nat.succ_mul] at h
    obtain ⟨h1, h2, h3⟩ := chunks_flat sz n (cs.drop sz) (by rw [List.length_drop]; omega)
    refine ⟨by simp [chunks, h1], by simp [chunks, h2], fun e he => ?_⟩
    simp only [chunks, List.mem_cons] at he
    rcases he with rfl | he
    · rw [List.length_take]; omega
    · exact h3 e he
def repL (n : Nat) (cs : List PD) : List PD :=
  match n with
  | 0 => []
  | n + 1 => cs ++ repL n cs
def sliceZ (P : Program) (t : TypeId) : Option (TypeId × Nat × Nat × Value) :=
  match P.underlying t with
  | some (.slice e) => match P.info? e with
    | some i => match i.zero with
      | some z => match z.cells.size == i.size with
        | true => some (e, i.size, i.bytes, z)
        | false => none
      | none => none
    | none => none
  | _ => none
theorem sliceZ_get {t e : TypeId} {sz bytes : Nat} {z : Value} (h : sliceZ P t = some (e, sz, bytes, z)) : ∃ i, P.underlying t = some (.slice e) ∧ P.info? e = some i ∧ i.zero = some z ∧ i.size = sz ∧ i.bytes = bytes ∧ z.cells.size = sz := by
  unfold sliceZ at h
  split at h
  · rename_i e' he
    split at h
    · rename_i i hi
      split at h
      · rename_i z' hz
        split at h
        · rename_i hs
          simp only [Option.some.injEq, Prod.mk.injEq] at h
          obtain ⟨rfl, rfl, rfl, rfl⟩ := h
          exact ⟨i, he, hi, hz, rfl, rfl, by simpa using hs⟩
        · cases h
      · cases h
    · cases h
  · cases h
theorem repL_length (n : Nat) (cs : List PD) : (repL n cs).length = n * cs.length := by
  induction n with
  | zero => simp [repL]
  | succ n ih => simp only [repL, List.length_append, ih, Nat.succ_mul]; omega
theorem repL_onesP {n : Nat} {cs : List PD} (h : onesP cs = true) : onesP (repL n cs) = true := by
  have app : ∀ {xs ys : List PD}, onesP xs = true → onesP ys = true → onesP (xs ++ ys) = true := by
    intro xs ys h1 h2
    induction xs with
    | nil => exact h2
    | cons x xs ih => simp only [onesP, Bool.and_eq_true, List.cons_append] at h1 ⊢; exact ⟨h1.1, ih h1.2⟩
  induction n with
  | zero => rfl
  | succ n ih => exact app h ih
theorem range_mod (z : Array Value) (n : Nat) : ((Array.range (n * z.size)).map (z[· % z.size]!)).toList = (List.replicate n z.toList).flatten := by
  induction n with
  | zero => simp
  | succ n ih =>
    rw [List.replicate_succ', List.flatten_append, ← ih]
    simp only [Array.toList_map, Array.toList_range, Nat.succ_mul, List.range_add, List.map_append, List.map_map, List.flatten_cons, List.flatten_nil, List.append_nil]
    congr 1
    apply List.ext_getElem
    · simp
    · intro i h1 h2
      have hi : i < z.size := by simpa using h2
      simp [hi, Nat.add_comm, Nat.mod_eq_of_lt hi]
theorem relL_rep {I : Nat → Prop} {cs : List PD} {vs : List Value} (h : relL I w cs vs) : ∀ n, relL I w (repL n cs) (List.replicate n vs).flatten
  | 0 => by simp [repL, relL]
  | n + 1 => by
    simp only [repL, List.replicate_succ, List.flatten_cons]
    exact relL_append h (relL_rep h n)
/-- A row that is laid whole. -/
theorem row_new {e : TypeId} {sz n : Nat} {cells : Array Value} {es : List (List PD)} {id : Nat} (hs : StRel X E st a w) (hl : cells.size = n * sz) (hes : es.length = n) (hm : n ≤ maxLen)
    (hr : relL E.I w es.flatten cells.toList) (h1 : ∀ x ∈ es, x.length = sz) (hone : ∀ u ∈ cells.toList, u.oneCell' = true) :
    (Ob.row e sz es).rel (E.put id (.slice (some ⟨w.heap.size, 0, none⟩) n n)) (w.alloc (.cells cells e)) id := by
  subst hes
  refine ⟨cells.toList, ?_, relL_keep (fresh_keep hs id _ (World.grownBy_alloc w _ none)) _ _ hr, h1, hone⟩
  rw [Env.put_same]
  exact World.ownsRow_lit w cells es.length (Nat.zero_le _) hm hl
theorem run_newRow (e : TypeId) (c : Array Value) (w : World) : (newRow e c).run P w = .ok ⟨w.heap.size, 0, none⟩ (w.alloc (.cells c e)) := by
  unfold newRow
  rw [Sem.run_bind, run_newObj]
  rfl
theorem run_buildSlice {t e : TypeId} {i : TypeInfo} {z : Value} {len sz : Nat} {parts : Array (Nat × Value)} {cells' : Array Value} (hu : P.underlying t = some (.slice e)) (hi : P.info? e = some i) (hz : i.zero = some z)
    (hs : i.size = sz) (h0 : 0 < sz) (hle : len * sz ≤ 16777216) (hf : Instr.fill (fun j => some (j * sz, sz)) ((Array.range (len * sz)).map (z.cells[· % z.cells.size]!)) parts.toList = some cells') (w : World) :
    (Instr.buildSlice t len parts).run P w = .ok (.slice (some ⟨w.heap.size, 0, none⟩) len len) (w.alloc (.cells cells' e)) := by
  have hle2 : ¬ len * sz > 16777216 := by omega
  by_cases hl : len = 0
  · subst hl
    have hr0 : ∀ f : Nat → Value, (Array.range 0).map f = #[] := fun f => by apply Array.ext'; simp
    rw [Nat.zero_mul, hr0] at hf
    simp [Instr.buildSlice, run_underlying hu, run_sizeOf w hi, hs, hr0, hf, run_newRow]
  · have hne : ¬ len * sz = 0 := by
      intro h
      rcases Nat.mul_eq_zero.1 h with h | h <;> omega
    have hzr : (zeroValue e).run P w = .ok z w := by simp [zeroValue, typeInfo, hi, hz]
    simp only [Instr.buildSlice, Sem.run_bind, run_underlying hu, Result.andThen_ok, run_sizeOf w hi, hs]
    rw [if_neg (by simpa using hle2)]
    simp only [Sem.run_pure, Result.andThen_ok, hne, if_false, Sem.run_bind, hzr, hf, run_newRow]
def evBuildSlice (P : Program) (t : TypeId) (len : Nat) (parts : List (Nat × DV)) (st : St) (id : Nat) : Option (DV × St) :=
  match sliceZ P t with
  | some (e, sz, _, z) => match cvL z.cells.toList, freeOb st id, Nat.ble (len * sz) 16777216, sz with
    | some cs, true, true, _ + 1 => match onesP cs, fillA (fun i => some (i * sz, sz)) (repL len cs) parts with
      | true, some cs' => match cs'.length == len * sz with
        | true => some (.sl id len, st.putO id (.row e sz (chunks sz len cs')))
        | false => none
      | _, _ => none
    | _, _, _, _ => none
  | none => none
theorem buildSlice_ok {o : Oper} {t : TypeId} {len : Nat} {parts : Array (Nat × Operand)} {id : Nat} {d : DV} {st' : St} (ho : o.op = .buildSlice t len parts)
    (he : evBuildSlice P t len (evParts st.tmps parts.toList) st id = some (d, st')) : OpOK P o st d st' := by
  unfold evBuildSlice at he
  split at he
  · rename_i e sz bytes z hz
    split at he
    · rename_i cs k hcs hid hle
      split at he
      · rename_i cs' hones hf
        split at he
        · rename_i hlen
          simp only [Option.some.injEq, Prod.mk.injEq] at he
          obtain ⟨rfl, rfl⟩ := he
          obtain ⟨i, hu, hi, hzz, hsz, _, hzs⟩ := sliceZ_get hz
          have hle' := Nat.le_of_ble_eq_true hle
          refine val_op fun X E a w hs => ?_
          obtain ⟨h1, h2⟩ := evParts_rel hs parts.toList
          have hz0 : relL E.I w (repL len cs) ((Array.range (len * (k + 1))).map (z.cells[· % z.cells.size]!)).toList := by
            have := range_mod z.cells len
            rw [hzs] at this
            rw [hzs, this]
            exact relL_rep (cvL_rel hcs) len
          obtain ⟨cells', h3, h4, h5⟩ := fillA_sound (vparts := parts.toList.map fun (i, x) => (i, a.eval x)) hf hz0 h1 h2
          have hone : ∀ u ∈ cells'.toList, u.oneCell' = true := h5 (onesP_rel (repL_onesP hones) hz0)
          have hlen' : cs'.length = len * (k + 1) := by simpa using hlen
          obtain ⟨c1, c2, c3⟩ := chunks_flat (k + 1) len cs' hlen'
          have hcl : cells'.size = len * (k + 1) := by rw [← hlen', ← relL_length h4]; simp
          have hg := World.grownBy_alloc w (.cells cells' e) none
          have hn : len ≤ maxLen := by
            have h6 : len ≤ len * k.succ := Nat.le_mul_of_pos_right _ (by omega)
            have h7 : (16777216 : Nat) ≤ maxLen := by decide
            omega
          refine ⟨.slice (some ⟨w.heap.size, 0, none⟩) len len, E.put id (.slice (some ⟨w.heap.size, 0, none⟩) len len), w.alloc (.cells cells' e), ?_, ?_, hs.fresh hid hg ?_ ?_⟩
          · refine exec_of (s := Instr.buildSlice t len (parts.map fun (i, x) => (i, a.eval x))) (by simp [execOp, ho]) ?_
            exact run_buildSlice hu hi hzz hsz (by omega) hle' (by rw [Array.toList_map]; exact h3) w
          · simp only [DV.rel]; exact ⟨_, _, _, Env.put_same _ _ _, Nat.le_refl _, rfl⟩
          · exact row_new hs hcl c2 hn (by rw [c1]; exact h4) c3 hone
          · intro b hb
            simp only [blk, Option.some.injEq] at hb
            omega
        · cases he
      · cases he
    · cases he
  · cases he
end
end Go.FI
