import Derived.Test.YtmfbkbjelikmoaaFi8
import Derived.Laws.BytesArg
import Derived.Laws.Strings
namespace Go.FI
open Go.RowKit

section
variable {P : Program} {X : Ctx} {E : Env} {st : St} {a : Act} {w : World}

/-! ### Elements of values -/
def bt (s : ByteArray) (i : Int) : Int := if h : i.toNat < s.size then ((s[i.toNat]'h).toNat : Int) else 0
def evIndex (P : Program) (t : TypeId) (x i : DV) (h : Hint) : Option (DV × Prop) :=
  match i with
  | .pd (.int _ j) => match x with
    | .pd (.str s) => match strTy P t with
      | true => some (.pd (.int .u8 (bt s j)), 0 ≤ j ∧ j < s.size)
      | false => none
    | .pd (.agg cs) => match arrayOf P t, h with
      | some (m, 1), .cell (.pd p) => some (.pd p, 0 ≤ j ∧ j < m ∧ cs[j.toNat]? = some p)
      | some (m, 1), _ => match cs[j.toNat]? with
        | some p => some (.pd p, 0 ≤ j ∧ j < m)
        | none => none
      | _, _ => none
    | _ => none
  | _ => none
def oneTy (P : Program) (t : TypeId) : Bool :=
  match P.underlying t with
  | some (.array _ e) => match P.underlying e with | some d => !aggD d | none => false
  | _ => true
theorem run_ixAgg {t e : TypeId} {i : TypeInfo} {m : Nat} {d : TypeDesc} (ht : P.underlying t = some (.array m e)) (hi : P.info? e = some i) (hs : i.size = 1) (hd : P.underlying e = some d) (hg : aggD d = false) (vs : Array Value) (k : IntKind) (j : Int) (v : Value) (h0 : 0 ≤ j) (h1 : j < m)
    (hv : vs[j.toNat]? = some v) : (Instr.index t (.agg vs) (.int k j)).run P w = .ok v w := by
  simp [Instr.index, asIntOf, run_underlying ht, h0, h1, part, run_isAgg w hd, hg, run_sizeOf w hi, hs, hv]
theorem index_ok {o : Oper} {t : TypeId} {x i : Operand} {h : Hint} {d : DV} {O : Prop} (ho : o.op = .index t x i) (h1 : oneTy P t = true) (he : evIndex P t (evl st.tmps x) (evl st.tmps i) h = some (d, O)) (hO : O) : ValOK P o st d := by
  intro X E a w hs
  have hx := evl_rel hs x
  have hi := evl_rel hs i
  unfold evIndex at he
  split at he
  · rename_i k j hj
    rw [hj] at hi
    simp only [DV.rel, PD.rel] at hi
    split at he
    · rename_i s hd
      rw [hd] at hx
      simp only [DV.rel, PD.rel] at hx
      split at he
      · rename_i hst
        simp only [Option.some.injEq, Prod.mk.injEq] at he
        obtain ⟨rfl, rfl⟩ := he
        refine ⟨.int .u8 (bt s j), exec_of (by simp [execOp, ho] <;> rfl) ?_, by simp only [DV.rel, PD.rel]⟩
        rw [hx, hi, run_index_string _ _ _ _ _ (strTy_get hst), dif_pos hO]
        have : j.toNat < s.size := by omega
        simp [bt, this]
      · cases he
    · rename_i cs hd
      rw [hd] at hx
      simp only [DV.rel, PD.rel] at hx
      obtain ⟨vs, hv, hl⟩ := hx
      have fin : ∀ m p, arrayOf P t = some (m, 1) → 0 ≤ j → j < m → cs[j.toNat]? = some p → ∃ v, (execOp a.eval o).run P w = .ok (.value v) w ∧ (DV.pd p).rel E w v := by
        intro m p hm h0 hlt hp
        obtain ⟨e, inf, hu, hinf, hsz⟩ := arrayOf_get hm
        have hone : ∃ d, P.underlying e = some d ∧ aggD d = false := by
          unfold oneTy at h1
          rw [hu] at h1
          simp only at h1
          split at h1
          · rename_i d hd'; exact ⟨d, hd', by simpa using h1⟩
          · cases h1
        obtain ⟨de, hde, hge⟩ := hone
        obtain ⟨v, hvv, hr⟩ := relL_get j.toNat p hl hp
        exact ⟨v, exec_of (by simp [execOp, ho] <;> rfl) (by rw [hv, hi]; exact run_ixAgg hu hinf hsz hde hge vs k j v h0 hlt (by simpa using hvv)), by simpa only [DV.rel] using hr⟩
      split at he
      · rename_i m p hm
        simp only [Option.some.injEq, Prod.mk.injEq] at he
        obtain ⟨rfl, rfl⟩ := he
        exact fin m p hm hO.1 hO.2.1 hO.2.2
      · rename_i m hm _
        split at he
        · rename_i p hp
          simp only [Option.some.injEq, Prod.mk.injEq] at he
          obtain ⟨rfl, rfl⟩ := he
          exact fin m p hm hO.1 hO.2 hp
        · cases he
      · cases he
    · cases he
  · cases he

/-! ### len, min, max -/
def lenKind (P : Program) (t : TypeId) : Option (Option Nat) :=   -- an array: its length
  match P.underlying t with
  | some .string => some none
  | some (.slice _) => some none
  | some (.array n _) => some (some n)
  | _ => none
def evLen (P : Program) (t : TypeId) (x : DV) : Option DV :=
  match P.underlying t with
  | some .string => match x with
    | .pd (.str s) => some (.pd (.int .i64 s.size))
    | _ => none
  | some (.slice _) => match x with
    | .pd (.ds _ es) => some (.pd (.int .i64 es.length))
    | .pd .nils => some (.pd (.int .i64 0))
    | .sl _ n => some (.pd (.int .i64 n))
    | .asl _ _ n _ => some (.pd (.int .i64 n))
    | _ => none
  | some (.array n _) => some (.pd (.int .i64 n))
  | _ => none
theorem bltn_exec {o : Oper} {b : Builtin} {args : Array Operand} {ts : Array TypeId} {v : Value} {w' : World} (ho : o.op = .call { callee := .builtin b, args := args, argTypes := ts })
    (hr : (builtin b ts o.type (args.map fun | .const _ => true | _ => false) (args.map a.eval)).run P w = .ok (.value v) w') : (execOp a.eval o).run P w = .ok (.value v) w' := by
  simp only [execOp, ho, resolve, invoke, Sem.run_bind, Sem.run_pure, Result.andThen_ok]
  exact hr
theorem len_ok {o : Oper} {x : Operand} {t : TypeId} {d : DV} (ho : o.op = .call { callee := .builtin .len, args := #[x], argTypes := #[t] }) (he : evLen P t (evl st.tmps x) = some d) : ValOK P o st d := by
  intro X E a w hs
  have hx := evl_rel hs x
  have fin : ∀ n : Nat, d = .pd (.int .i64 n) → (Builtin.len_ #[t] o.type #[a.eval x]).run P w = .ok (goInt n) w → ∃ v, (execOp a.eval o).run P w = .ok (.value v) w ∧ d.rel E w v := by
    rintro n rfl hr
    refine ⟨goInt n, bltn_exec ho ?_, by simp only [DV.rel, PD.rel]; rfl⟩
    simp only [builtin, List.map_toArray, List.map_cons, List.map_nil, Sem.run_bind, hr, Result.andThen_ok, Sem.run_pure]
  unfold evLen at he
  split at he
  · rename_i hu
    split at he
    · rename_i s hd
      rw [hd] at hx
      simp only [DV.rel, PD.rel] at hx
      obtain rfl := Option.some.inj he
      exact fin _ rfl (by rw [hx]; simp [Builtin.len_, run_underlying hu])
    · cases he
  · rename_i e hu
    split at he
    · rename_i sz es hd
      rw [hd] at hx
      simp only [DV.rel, PD.rel] at hx
      obtain ⟨A, c, hv, _⟩ := hx
      obtain rfl := Option.some.inj he
      exact fin _ rfl (by rw [hv]; simp [Builtin.len_, run_underlying hu])
    · rename_i hd
      rw [hd] at hx
      simp only [DV.rel, PD.rel] at hx
      obtain rfl := Option.some.inj he
      exact fin 0 rfl (by rw [hx]; simp [Builtin.len_, run_underlying hu])
    · rename_i id n hd
      rw [hd] at hx
      obtain ⟨A, l, c, _, _, hv⟩ := hx
      obtain rfl := Option.some.inj he
      exact fin _ rfl (by rw [hv]; simp [Builtin.len_, run_underlying hu])
    · rename_i id off n c hd
      rw [hd] at hx
      obtain ⟨b, _, hv⟩ := hx
      obtain rfl := Option.some.inj he
      exact fin _ rfl (by rw [hv]; simp [Builtin.len_, run_underlying hu])
    · cases he
  · rename_i n e hu
    obtain rfl := Option.some.inj he
    exact fin n rfl (by simp [Builtin.len_, run_underlying hu])
  · cases he
def evMinMax (mx : Bool) (x y : DV) : Option DV :=
  match x, y with
  | .pd (.int k a), .pd (.int _ b) => match mx with
    | true => some (.pd (.int k (if b > a then b else a)))
    | false => some (.pd (.int k (if b < a then b else a)))
  | _, _ => none
theorem max_ok {o : Oper} {x y : Operand} {ts : Array TypeId} {d : DV} (ho : o.op = .call { callee := .builtin .max, args := #[x, y], argTypes := ts }) (he : evMinMax true (evl st.tmps x) (evl st.tmps y) = some d) : ValOK P o st d := by
  intro X E a w hs
  have hx := evl_rel hs x
  have hy := evl_rel hs y
  unfold evMinMax at he
  split at he
  · rename_i k m k' n h1 h2
    rw [h1] at hx
    rw [h2] at hy
    simp only [DV.rel, PD.rel] at hx hy
    obtain rfl := Option.some.inj he
    refine ⟨.int k (if n > m then n else m), bltn_exec ho ?_, by simp only [DV.rel, PD.rel]⟩
    simp only [builtin, List.map_toArray, List.map_cons, List.map_nil, Sem.run_bind, hx, hy, run_max_int2, Result.andThen_ok, Sem.run_pure]
  · cases he
theorem min_ok {o : Oper} {x y : Operand} {ts : Array TypeId} {d : DV} (ho : o.op = .call { callee := .builtin .min, args := #[x, y], argTypes := ts }) (he : evMinMax false (evl st.tmps x) (evl st.tmps y) = some d) : ValOK P o st d := by
  intro X E a w hs
  have hx := evl_rel hs x
  have hy := evl_rel hs y
  unfold evMinMax at he
  split at he
  · rename_i k m k' n h1 h2
    rw [h1] at hx
    rw [h2] at hy
    simp only [DV.rel, PD.rel] at hx hy
    obtain rfl := Option.some.inj he
    refine ⟨.int k (if n < m then n else m), bltn_exec ho ?_, by simp only [DV.rel, PD.rel]⟩
    simp only [builtin, List.map_toArray, List.map_cons, List.map_nil, Sem.run_bind, hx, hy, run_min_int2, Result.andThen_ok, Sem.run_pure]
  · cases he

/-! ### Bytes as a string -/
def bytesTy (P : Program) (t : TypeId) : Bool :=
  match P.underlying t with
  | some (.slice e) => match P.underlying e with | some (.int .u8) => true | _ => false
  | _ => false
theorem bytesTy_get {t : TypeId} (h : bytesTy P t = true) : ∃ e, P.underlying t = some (.slice e) ∧ P.underlying e = some (.int .u8) := by
  unfold bytesTy at h
  split at h
  · rename_i e he
    split at h
    · rename_i h2; exact ⟨e, he, h2⟩
    · cases h
  · cases h
def numsPD (xs : List Int) : List (List PD) := xs.map fun x => [PD.int .u8 x]
def numsDV (xs : List Int) : List DV := xs.map fun x => DV.pd (.int .u8 x)
def evStrOf (H : List Ob) (x : DV) (xs : List Int) : Option (DV × Prop) :=
  match x with
  | .pd (.ds 1 es) => some (.pd (.str (strOfNums xs)), es = numsPD xs)
  | .sl id n => match H[id]? with
    | some (.row _ 1 es) => some (.pd (.str (strOfNums xs)), es.take n = numsPD xs ∧ n ≤ es.length)
    | _ => none
  | .asl id off n _ => match H[id]? with
    | some (.cells _ cs) => some (.pd (.str (strOfNums xs)), (cs.drop off).take n = numsDV xs ∧ xs.length = n)
    | _ => none
  | _ => none
theorem relRow_nums {I : Nat → Prop} {b : Nat} : ∀ {xs : List Int} {o : Nat}, relRow I w b o (numsPD xs) → ∀ i, i < xs.length → w.cell? ⟨b, o + i, none⟩ = some (.int .u8 (xs.getD i 0))
  | [], _, _, i, hi => by simp at hi
  | x :: xs, o, h, i, hi => by
    simp only [numsPD, List.map_cons, relRow, relAt, PD.rel, and_true, List.length_cons, List.length_nil] at h
    obtain ⟨⟨v, hc, _, rfl⟩, h'⟩ := h
    match i with
    | 0 => simpa using hc
    | i + 1 =>
      have := relRow_nums (o := o + 1) h' i (by simpa using hi)
      rw [show o + (i + 1) = o + 1 + i by omega]
      simpa using this
theorem drelL_nums : ∀ {xs : List Int} {vs : List Value}, drelL E w (numsDV xs) vs → vs = xs.map (Value.int .u8)
  | [], vs, h => by simpa [numsDV, drelL] using h
  | x :: xs, vs, h => by
    simp only [numsDV, List.map_cons, drelL, DV.rel, PD.rel] at h
    obtain ⟨v, vs', rfl, rfl, h'⟩ := h
    rw [drelL_nums h']
    rfl
theorem strOf_ok {o : Oper} {src dst : TypeId} {x : Operand} {xs : List Int} {d : DV} {O : Prop} (ho : o.op = .convert src dst x) (hsrc : bytesTy P src = true) (hdst : strTy P dst = true)
    (he : evStrOf st.heap (evl st.tmps x) xs = some (d, O)) (hO : O) : ValOK P o st d := by
  intro X E a w hs
  have hx := evl_rel hs x
  obtain ⟨e, hu, hue⟩ := bytesTy_get hsrc
  have hd := strTy_get hdst
  have fin : ∀ b off len cap, a.eval x = .slice (some ⟨b, off, none⟩) len cap → xs.length = len → (∀ i, i < len → w.cell? ⟨b, off + i, none⟩ = some (.int .u8 (xs.getD i 0))) → d = .pd (.str (strOfNums xs)) →
      ∃ v, (execOp a.eval o).run P w = .ok (.value v) w ∧ d.rel E w v := by
    rintro b off len cap hv hl hc rfl
    exact ⟨_, exec_of (by simp [execOp, ho] <;> rfl) (by rw [hv]; exact run_convert_bytes_arg w src e hu hue b off len cap xs hl hc dst hd), by simp only [DV.rel, PD.rel]⟩
  have fin0 : ∀ l c, a.eval x = .slice none l c → xs = [] → d = .pd (.str (strOfNums xs)) → ∃ v, (execOp a.eval o).run P w = .ok (.value v) w ∧ d.rel E w v := by
    rintro l c hv rfl rfl
    exact ⟨_, exec_of (by simp [execOp, ho] <;> rfl) (by rw [hv]; exact run_convert_bytes_nil w src e hu hue l c dst hd), by simp only [DV.rel, PD.rel]; rfl⟩
  unfold evStrOf at he
  split at he
  · rename_i es hd'
    rw [hd'] at hx
    simp only [Option.some.injEq, Prod.mk.injEq] at he
    obtain ⟨rfl, rfl⟩ := he
    simp only [DV.rel, PD.rel] at hx
    obtain ⟨A, c, hv, hc, hl, hne⟩ := hx
    subst hO
    by_cases h0 : xs = []
    · subst h0
      cases A with
      | none => exact fin0 _ _ hv rfl rfl
      | some q =>
        -- an empty slice that is not nil: no cell is read
        refine ⟨.string (strOfNums []), exec_of (by simp [execOp, ho] <;> rfl) ?_, by simp only [DV.rel, PD.rel]⟩
        rw [hv, run_convert_bytes_string w src dst e q _ c hu hue hd, run_bytesToString w q _ c [] (by simp [numsPD, loadCells, loadCellsFrom])]
        rfl
    · obtain ⟨b, q, rfl, _, hrow⟩ := hne (by simpa [numsPD] using h0)
      exact fin b q _ c hv (by simp [numsPD]) (fun i hi => relRow_nums hrow i (by simpa [numsPD] using hi)) rfl
  · rename_i id n hd'
    rw [hd'] at hx
    split at he
    · rename_i e' es hH
      simp only [Option.some.injEq, Prod.mk.injEq] at he
      obtain ⟨rfl, rfl⟩ := he
      obtain ⟨hes, hn⟩ := hO
      obtain ⟨A, l, c, hm, hnl, hv⟩ := hx
      have hlen : xs.length = n := by
        have := congrArg List.length hes
        simpa [numsPD, Nat.min_eq_left hn] using this.symm
      have hob := hs.heap.ob id _ hH
      by_cases h0 : n = 0
      · subst h0
        obtain rfl : xs = [] := List.eq_nil_of_length_eq_zero hlen
        cases A with
        | none => exact fin0 _ _ hv rfl rfl
        | some q =>
          refine ⟨.string (strOfNums []), exec_of (by simp [execOp, ho] <;> rfl) ?_, by simp only [DV.rel, PD.rel]⟩
          rw [hv, run_convert_bytes_string w src dst e q _ c hu hue hd, run_bytesToString w q _ c [] (by simp [loadCells, loadCellsFrom])]
          rfl
      · obtain ⟨b, rfl⟩ := row_form hob hm (by omega)
        refine fin b 0 n c hv hlen (fun i hi => ?_) rfl
        have hi' : es[i]? = some [PD.int .u8 (xs.getD i 0)] := by
          have h1 : (es.take n)[i]? = (numsPD xs)[i]? := by rw [hes]
          rw [List.getElem?_take, if_pos hi] at h1
          rw [h1]
          simp [numsPD, List.getElem?_eq_getElem (show i < xs.length by omega)]
        obtain ⟨vs, h1, h2, _⟩ := row_elem hob hm hi'
        simp only [relL, PD.rel] at h1
        obtain ⟨v, vs', rfl, rfl, _⟩ := h1
        have := h2 0 _ rfl
        simpa using this
    · cases he
  · rename_i id off n c hd'
    rw [hd'] at hx
    split at he
    · rename_i e' cs hH
      simp only [Option.some.injEq, Prod.mk.injEq] at he
      obtain ⟨rfl, rfl⟩ := he
      obtain ⟨hcs, hn⟩ := hO
      obtain ⟨b, hm, hv⟩ := hx
      obtain ⟨b', C, hm', hh, hr⟩ := hs.heap.ob id _ hH
      obtain rfl : b = b' := by rw [hm] at hm'; injection hm' with h; injection h with h; injection h
      have h1 := drelL_take n (drelL_drop off hr)
      rw [hcs] at h1
      have h2 := drelL_nums h1
      refine fin b off n c hv hn (fun i hi => ?_) rfl
      rw [cell_of_row w b _ C e' (0, 0) hh]
      have h3 : ((C.toList.drop off).take n)[i]? = (xs.map (Value.int .u8))[i]? := by rw [h2]
      rw [List.getElem?_take, if_pos hi, List.getElem?_drop] at h3
      rw [← Array.getElem?_toList, h3]
      simp [List.getElem?_eq_getElem (show i < xs.length by omega)]
    · cases he
  · cases he
end
end Go.FI
