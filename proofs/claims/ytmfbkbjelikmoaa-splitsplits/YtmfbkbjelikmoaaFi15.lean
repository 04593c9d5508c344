import Derived.Test.YtmfbkbjelikmoaaFi20
namespace Go.FI
open Go.RowKit

/-! ### One operation -/
abbrev Res := Option (DV × St × List Prop)
def All : List Prop → Prop
  | [] => True
  | p :: ps => p ∧ All ps
theorem All_append : ∀ {ps qs : List Prop}, All (ps ++ qs) → All ps ∧ All qs
  | [], _, h => ⟨trivial, h⟩
  | _ :: _, _, ⟨h, h'⟩ => ⟨⟨h, (All_append h').1⟩, (All_append h').2⟩
def vD (st : St) (x : Option DV) : Res := match x with | some d => some (d, st, []) | none => none
def vO (st : St) (x : Option (DV × Prop)) : Res := match x with | some (d, O) => some (d, st, [O]) | none => none
def sD (x : Option (DV × St)) : Res := match x with | some (d, st') => some (d, st', []) | none => none
def cO (x : Option (DV × St × Prop)) : Res := match x with | some (d, st', O) => some (d, st', [O]) | none => none
def rawH (h : Hint) : Bool := match h with | .w => true | _ => false
def frH (st : St) (h : Hint) : Nat := match h with | .fr i => i | _ => st.heap.length
section
variable {P : Program} {o : Oper} {st st' : St} {d : DV} {O : List Prop}
theorem vD_get {x : Option DV} (h : vD st x = some (d, st', O)) : x = some d ∧ st' = st := by
  unfold vD at h
  split at h
  · simp only [Option.some.injEq, Prod.mk.injEq] at h
    exact ⟨by rw [h.1], h.2.1.symm⟩
  · cases h
theorem vO_get {x : Option (DV × Prop)} (h : vO st x = some (d, st', O)) (hO : All O) : ∃ O', x = some (d, O') ∧ O' ∧ st' = st := by
  unfold vO at h
  split at h
  · simp only [Option.some.injEq, Prod.mk.injEq] at h
    obtain ⟨rfl, rfl, rfl⟩ := h
    exact ⟨_, rfl, hO.1, rfl⟩
  · cases h
theorem cO_get {x : Option (DV × St × Prop)} (h : cO x = some (d, st', O)) (hO : All O) : ∃ O', x = some (d, st', O') ∧ O' := by
  unfold cO at h
  split at h
  · simp only [Option.some.injEq, Prod.mk.injEq] at h
    obtain ⟨rfl, rfl, rfl⟩ := h
    exact ⟨_, rfl, hO.1⟩
  · cases h
theorem sD_get {x : Option (DV × St)} (h : sD x = some (d, st', O)) : x = some (d, st') := by
  unfold sD at h
  split at h
  · simp only [Option.some.injEq, Prod.mk.injEq] at h
    obtain ⟨rfl, rfl, rfl⟩ := h
    rfl
  · cases h

def boolOp (P : Program) (t : TypeId) (x y : DV) : Bool :=
  match x, y with
  | .pd (.bool _), .pd (.bool _) => boolTy P t
  | _, _ => true
def opBin (P : Program) (st : St) (op : BinOp) (t : TypeId) (x y : Operand) (h : Hint) : Res :=
  match evAggEq P op t (evl st.tmps x) (evl st.tmps y) with
  | some d => some (d, st, [])
  | none => match evNilS P op t (evl st.tmps x) (evl st.tmps y) with
    | some d => some (d, st, [])
    | none => match boolOp P t (evl st.tmps x) (evl st.tmps y) with
      | true => vO st (evBin op (rawH h) (evl st.tmps x) (evl st.tmps y))
      | false => none
theorem opBin_ok {op : BinOp} {t u : TypeId} {x y : Operand} {h : Hint} (ho : o.op = .binOp op t x y u) (he : opBin P st op t x y h = some (d, st', O)) (hO : All O) : OpOK P o st d st' := by
  unfold opBin at he
  split at he
  · rename_i d' hd
    simp only [Option.some.injEq, Prod.mk.injEq] at he
    obtain ⟨rfl, rfl, rfl⟩ := he
    exact (aggBin_ok ho hd).op
  · split at he
    · rename_i d' hd
      simp only [Option.some.injEq, Prod.mk.injEq] at he
      obtain ⟨rfl, rfl, rfl⟩ := he
      exact (nilBin_ok ho hd).op
    · split at he
      · rename_i hb
        obtain ⟨O', he, hO, rfl⟩ := vO_get he hO
        refine (bin_ok ho he hO fun p q hp hq => ?_).op
        rw [hp, hq] at hb
        exact hb
      · cases he
def opConv (P : Program) (st : St) (src dst : TypeId) (x : Operand) (h : Hint) : Res :=
  match intTy P dst with
  | some k => match intTy P src with
    | some _ => vO st (evConvInt k (rawH h) (evl st.tmps x))
    | none => none
  | none => match bytesTy P src, strTy P dst, h with
    | true, true, .nums xs => vO st (evStrOf st.heap (evl st.tmps x) xs)
    | _, _, _ => none
theorem opConv_ok {src dst : TypeId} {x : Operand} {h : Hint} (ho : o.op = .convert src dst x) (he : opConv P st src dst x h = some (d, st', O)) (hO : All O) : OpOK P o st d st' := by
  unfold opConv at he
  split at he
  · rename_i k hk
    split at he
    · rename_i ks hks
      obtain ⟨O', he, hO, rfl⟩ := vO_get he hO
      exact (convInt_ok ho hk hks he hO).op
    · cases he
  · split at he
    · rename_i xs h1 h2
      obtain ⟨O', he, hO, rfl⟩ := vO_get he hO
      exact (strOf_ok ho h1 h2 he hO).op
    · cases he
def opSlice (P : Program) (st : St) (t : TypeId) (x : Operand) (lo hi : Option Operand) : Res :=
  match evB st.tmps lo, evB st.tmps hi with
  | some rl, some rh => match sliceOf P t with
    | some esz => vO st (evCut esz st.heap (evl st.tmps x) rl rh)
    | none => match arrayOf P t with
      | some (m, esz) => vO st (evCutArr m esz (evl st.tmps x) rl rh)
      | none => match strTy P t with
        | true => vO st (evCutStr (evl st.tmps x) rl rh)
        | false => none
  | _, _ => none
theorem opSlice_ok {t : TypeId} {x : Operand} {lo hi : Option Operand} (ho : o.op = .slice t x lo hi none) (he : opSlice P st t x lo hi = some (d, st', O)) (hO : All O) : OpOK P o st d st' := by
  unfold opSlice at he
  split at he
  · rename_i rl rh h1 h2
    split at he
    · rename_i esz ht
      obtain ⟨O', he, hO, rfl⟩ := vO_get he hO
      exact (cut_ok ho ht h1 h2 he hO).op
    · split at he
      · rename_i m esz ht
        obtain ⟨O', he, hO, rfl⟩ := vO_get he hO
        exact (cutArr_ok ho ht h1 h2 he hO).op
      · split at he
        · rename_i ht
          obtain ⟨O', he, hO, rfl⟩ := vO_get he hO
          exact (cutStr_ok ho ht h1 h2 he hO).op
        · cases he
  · cases he
def opIxAddr (P : Program) (st : St) (t : TypeId) (x i : Operand) (h : Hint) : Res :=
  match sliceOf P t with
  | some esz => vO st (evIxSlice esz st.heap (evl st.tmps x) (evl st.tmps i) h)
  | none => match arrayOf P t with
    | some (m, esz) => vO st (evIxArray m esz (evl st.tmps x) (evl st.tmps i))
    | none => none
theorem opIxAddr_ok {t : TypeId} {x i : Operand} {h : Hint} (ho : o.op = .indexAddr t x i) (he : opIxAddr P st t x i h = some (d, st', O)) (hO : All O) : OpOK P o st d st' := by
  unfold opIxAddr at he
  split at he
  · rename_i esz ht
    obtain ⟨O', he, hO, rfl⟩ := vO_get he hO
    exact (ixSlice_ok ho ht he hO).op
  · split at he
    · rename_i m esz ht
      obtain ⟨O', he, hO, rfl⟩ := vO_get he hO
      exact (ixArray_ok ho ht he hO).op
    · cases he
def opIndex (P : Program) (st : St) (t : TypeId) (x i : Operand) (h : Hint) : Res :=
  match oneTy P t with
  | true => vO st (evIndex P t (evl st.tmps x) (evl st.tmps i) h)
  | false => none
theorem opIndex_ok {t : TypeId} {x i : Operand} {h : Hint} (ho : o.op = .index t x i) (he : opIndex P st t x i h = some (d, st', O)) (hO : All O) : OpOK P o st d st' := by
  unfold opIndex at he
  split at he
  · rename_i ht
    obtain ⟨O', he, hO, rfl⟩ := vO_get he hO
    exact (index_ok ho ht he hO).op
  · cases he
def opLoad (P : Program) (st : St) (t : TypeId) (x : Operand) (h : Hint) : Res :=
  match tyInfo P t with
  | some (g, n) => vO st (evLoad g n st.heap (evl st.tmps x) h)
  | none => none
theorem opLoad_ok {t : TypeId} {x : Operand} {h : Hint} (ho : o.op = .load t x) (he : opLoad P st t x h = some (d, st', O)) (hO : All O) : OpOK P o st d st' := by
  unfold opLoad at he
  split at he
  · rename_i g n ht
    obtain ⟨O', he, hO, rfl⟩ := vO_get he hO
    exact (load_ok ho ht he hO).op
  · cases he
def opStore (P : Program) (st : St) (t : TypeId) (x v : Operand) (h : Hint) : Res :=
  match tyInfo P t with
  | some (_, n) => match evStore n st.heap (evl st.tmps x) (evl st.tmps v) h with
    | some (H, O) => some (undefD, ⟨st.tmps, H, st.pins⟩, [O])
    | none => none
  | none => none
theorem opStore_ok {t : TypeId} {x v : Operand} {h : Hint} (ho : o.op = .store t x v) (he : opStore P st t x v h = some (d, st', O)) (hO : All O) : OpOK P o st d st' := by
  unfold opStore at he
  split at he
  · rename_i g n ht
    split at he
    · rename_i H O' hs
      simp only [Option.some.injEq, Prod.mk.injEq] at he
      obtain ⟨rfl, rfl, rfl⟩ := he
      exact store_ok ho ht hs hO.1
    · cases he
  · cases he
def opField (P : Program) (st : St) (s : TypeId) (x : Operand) (f : Nat) : Res :=
  match fieldOff P s f with
  | some off => vD st (evFieldAddr (evl st.tmps x) off)
  | none => none
theorem opField_ok {s : TypeId} {x : Operand} {f : Nat} (ho : o.op = .fieldAddr s x f) (he : opField P st s x f = some (d, st', O)) : OpOK P o st d st' := by
  unfold opField at he
  split at he
  · rename_i off hf
    obtain ⟨he, rfl⟩ := vD_get he
    exact (fieldAddr_ok ho hf he).op
  · cases he
def opBuiltin (P : Program) (st : St) (b : Builtin) (args : List Operand) (ts : List TypeId) (h : Hint) : Res :=
  match b, args, ts with
  | .len, [x], [t] => vD st (evLen P t (evl st.tmps x))
  | .max, [x, y], _ => vD st (evMinMax true (evl st.tmps x) (evl st.tmps y))
  | .min, [x, y], _ => vD st (evMinMax false (evl st.tmps x) (evl st.tmps y))
  | .append, [s, x], [t, t'] => match t == t' with
    | true => cO (evAppend P t (evl st.tmps s) (evl st.tmps x) st (match h with | .n => .fr st.heap.length | h => h))
    | false => none
  | _, _, _ => none
def opCall (P : Program) (st : St) (c : Call) (h : Hint) : Res :=
  match c.callee with
  | .value f => cO (evCall P st (evl st.tmps f) (evsl st.tmps c.args.toList) h)
  | .builtin b => opBuiltin P st b c.args.toList c.argTypes.toList h
  | .invoke _ _ => none
theorem opCall_ok {c : Call} {h : Hint} (ho : o.op = .call c) (he : opCall P st c h = some (d, st', O)) (hO : All O) : OpOK P o st d st' := by
  obtain ⟨ce, ⟨args⟩, ⟨ts⟩⟩ := c
  unfold opCall at he
  split at he
  · rename_i f hc
    simp only at hc he
    subst hc
    obtain ⟨O', he, hO⟩ := cO_get he hO
    exact call_ok ho he hO
  · rename_i b hc
    simp only at hc he
    subst hc
    unfold opBuiltin at he
    split at he
    · obtain ⟨he, rfl⟩ := vD_get he
      exact (len_ok ho he).op
    · obtain ⟨he, rfl⟩ := vD_get he
      exact (max_ok ho he).op
    · obtain ⟨he, rfl⟩ := vD_get he
      exact (min_ok ho he).op
    · split at he
      · rename_i heq
        obtain rfl := eq_of_beq heq
        obtain ⟨O', he, hO⟩ := cO_get he hO
        exact append_ok ho he hO
      · cases he
    · cases he
  · cases he
def opIface (P : Program) (st : St) (t : TypeId) (x : Operand) : Res :=
  match concrete P t with
  | true => some (evIface t (evl st.tmps x), st, [])
  | false => none
theorem opIface_ok {t : TypeId} {x : Operand} (ho : o.op = .makeInterface t x) (he : opIface P st t x = some (d, st', O)) : OpOK P o st d st' := by
  unfold opIface at he
  split at he
  · rename_i hc
    simp only [Option.some.injEq, Prod.mk.injEq] at he
    obtain ⟨rfl, rfl, rfl⟩ := he
    exact (iface_ok ho hc).op
  · cases he
def opNil (st : St) (x : Operand) : Res :=
  match isPtr (evl st.tmps x) with
  | true => some (evl st.tmps x, st, [])
  | false => none
theorem opNil_ok {x : Operand} (ho : o.op = .nilCheck x) (he : opNil st x = some (d, st', O)) : OpOK P o st d st' := by
  unfold opNil at he
  split at he
  · rename_i hc
    simp only [Option.some.injEq, Prod.mk.injEq] at he
    obtain ⟨rfl, rfl, rfl⟩ := he
    exact (nil_ok ho hc).op
  · cases he

def evOp (P : Program) (st : St) (o : Op) (h : Hint) : Res :=
  match o with
  | .move x => some (evl st.tmps x, st, [])
  | .assign x => some (evl st.tmps x, st, [])
  | .pick c x y => vD st (evPick (evl st.tmps c) (evl st.tmps x) (evl st.tmps y))
  | .extract x i => vD st (evExtract (evl st.tmps x) i)
  | .fieldAddr s x f => opField P st s x f
  | .load t x => opLoad P st t x h
  | .store t x v => opStore P st t x v h
  | .binOp op t x y _ => opBin P st op t x y h
  | .unOp op _ x => vO st (evUn op (rawH h) (evl st.tmps x))
  | .convert src dst x => opConv P st src dst x h
  | .makeInterface t x => opIface P st t x
  | .makeFunc (.func f) ⟨[]⟩ caps => some (.clo f (evsl st.tmps caps.toList), st, [])
  | .nilCheck x => opNil st x
  | .indexAddr t x i => opIxAddr P st t x i h
  | .index t x i => opIndex P st t x i h
  | .slice t x lo hi none => opSlice P st t x lo hi
  | .alloc t => sD (evAlloc P t st (frH st h))
  | .box t x => sD (evBox t st (evl st.tmps x) (frH st h))
  | .build t parts => vD st (evBuild P t (evParts st.tmps parts.toList))
  | .buildSlice t len parts => sD (evBuildSlice P t len (evParts st.tmps parts.toList) st (frH st h))
  | .makeSlice t l c => cO (evMake P t (evl st.tmps l) (evl st.tmps c) st (frH st h))
  | .call c => opCall P st c h
  | _ => none

theorem some3 {a : DV} {b : St} {c : List Prop} (he : some (a, b, c) = some (d, st', O)) : a = d ∧ b = st' := by
  simp only [Option.some.injEq, Prod.mk.injEq] at he
  exact ⟨he.1, he.2.1⟩
theorem evOp_ok {h : Hint} (he : evOp P st o.op h = some (d, st', O)) (hO : All O) : OpOK P o st d st' := by
  unfold evOp at he
  split at he <;> rename_i ho
  · obtain ⟨rfl, rfl⟩ := some3 he; exact (move_ok ho).op
  · obtain ⟨rfl, rfl⟩ := some3 he; exact (assign_ok ho).op
  · obtain ⟨he, rfl⟩ := vD_get he; exact (pick_ok ho he).op
  · obtain ⟨he, rfl⟩ := vD_get he; exact (extract_ok ho he).op
  · exact opField_ok ho he
  · exact opLoad_ok ho he hO
  · exact opStore_ok ho he hO
  · exact opBin_ok ho he hO
  · obtain ⟨O', he, hO, rfl⟩ := vO_get he hO; exact (un_ok ho he hO).op
  · exact opConv_ok ho he hO
  · exact opIface_ok ho he
  · obtain ⟨rfl, rfl⟩ := some3 he; exact (func_ok ho).op
  · exact opNil_ok ho he
  · exact opIxAddr_ok ho he hO
  · exact opIndex_ok ho he hO
  · exact opSlice_ok ho he hO
  · exact alloc_ok ho (sD_get he)
  · exact box_ok ho (sD_get he)
  · obtain ⟨he, rfl⟩ := vD_get he; exact (build_ok ho he).op
  · exact buildSlice_ok ho (sD_get he)
  · obtain ⟨O', he, hO⟩ := cO_get he hO; exact make_ok ho he hO
  · exact opCall_ok ho he hO
  · cases he
end
end Go.FI
