import Derived.Test.YtmfbkbjelikmoaaFi6
import Derived.Laws.Small
namespace Go.FI
open Go.RowKit

section
variable {P : Program} {X : Ctx} {E : Env} {st : St} {a : Act} {w : World}

/-! ### Two operands -/
theorem guard_plain {op : BinOp} {t : TypeId} {x y : Operand} {u v : Value} (h1 : ∀ cs, u ≠ .agg cs) (h2 : u ≠ .nilIface ∨ v ≠ .nilIface) : (eqGuard op t x y u v).run P w = .ok () w := by
  cases u with
  | agg cs => exact absurd rfl (h1 cs)
  | nilIface =>
    cases v with
    | nilIface => rcases h2 with h | h <;> exact absurd rfl h
    | _ => cases op <;> rfl
  | _ => cases op <;> rfl
theorem bin_exec {o : Oper} {op : BinOp} {t u : TypeId} {x y : Operand} {v : Value} (ho : o.op = .binOp op t x y u) (h1 : (eqGuard op t x y (a.eval x) (a.eval y)).run P w = .ok () w)
    (h2 : (binOp op t (a.eval x) (a.eval y)).run P w = .ok v w) : (execOp a.eval o).run P w = .ok (.value v) w := by
  simp [execOp, ho, h1, h2]
def isShift : BinOp → Bool
  | .shl | .shr => true
  | _ => false
def evStr (op : BinOp) (a b : ByteArray) : Option (PD × Prop) :=
  match op with
  | .add => some (.str (a ++ b), a.size + b.size ≤ 9223372036854775807)
  | .eql => some (.bool (a.toList == b.toList), True)
  | .neq => some (.bool (!(a.toList == b.toList)), True)
  | .lss => some (.bool (Op.bytesLess a.toList b.toList), True)
  | _ => none
theorem evStr_sound {op : BinOp} {x y : ByteArray} {p : PD} {O : Prop} (he : evStr op x y = some (p, O)) (hO : O) (t : TypeId) (w : World) (I : Nat → Prop) :
    ∃ v, (binOp op t (.string x) (.string y)).run P w = .ok v w ∧ p.rel I w v := by
  cases op <;> first
    | (simp [evStr] at he; done)
    | (simp only [evStr, Option.some.injEq, Prod.mk.injEq] at he
       obtain ⟨rfl, rfl⟩ := he
       refine ⟨_, ?_, by simp only [PD.rel]; rfl⟩
       first
       | (simp only [binOp, Op.stringOp]; exact Sem.run_pure _ _ _)
       | (have hn : ¬ ((x.size + y.size : Nat) : Int) > IntKind.i64.max := by
            have : IntKind.i64.max = 9223372036854775807 := by decide
            omega
          simp only [binOp, Op.stringOp, hn, if_false]; exact Sem.run_pure _ _ _))
/-- Cells that can be held against one another here. -/
def peq : PD → PD → Option Bool
  | .int _ a, .int _ b => some (a == b)
  | .bool a, .bool b => some (a == b)
  | .str a, .str b => some (a.toList == b.toList)
  | _, _ => none
def evBin (op : BinOp) (raw : Bool) (x y : DV) : Option (DV × Prop) :=
  match x, y with
  | .pd (.int k a), .pd (.int k' b) => match isShift op with
    | true => match evShift op k a b with | some (p, O) => some (.pd p, O) | none => none
    | false => match decide (k = k') with
      | true => match evInt op k a b raw with | some (p, O) => some (.pd p, O) | none => none
      | false => none
  | .pd (.str a), .pd (.str b) => match evStr op a b with | some (p, O) => some (.pd p, O) | none => none
  | .pd (.bool a), .pd (.bool b) => match op with
    | .eql => some (.pd (.bool (a == b)), True)
    | .neq => some (.pd (.bool (!(a == b))), True)
    | _ => none
  | _, _ => none
def boolTy (P : Program) (t : TypeId) : Bool := match P.underlying t with | some .bool => true | _ => false
theorem boolTy_get {t : TypeId} (h : boolTy P t = true) : P.underlying t = some .bool := by
  unfold boolTy at h
  split at h
  · assumption
  · cases h
theorem bin_ok {o : Oper} {op : BinOp} {t u : TypeId} {x y : Operand} {raw : Bool} {d : DV} {O : Prop} (ho : o.op = .binOp op t x y u) (he : evBin op raw (evl st.tmps x) (evl st.tmps y) = some (d, O)) (hO : O)
    (hb : ∀ p q, evl st.tmps x = .pd (.bool p) → evl st.tmps y = .pd (.bool q) → boolTy P t = true) : ValOK P o st d := by
  intro X E a w hs
  have hx := evl_rel hs x
  have hy := evl_rel hs y
  unfold evBin at he
  split at he
  · rename_i k m k' n h1 h2
    rw [h1] at hx
    rw [h2] at hy
    simp only [DV.rel, PD.rel] at hx hy
    have hg : (eqGuard op t x y (a.eval x) (a.eval y)).run P w = .ok () w := by rw [hx, hy]; exact guard_plain (by simp) (.inl (by simp))
    split at he
    · split at he
      · rename_i p O' hev
        simp only [Option.some.injEq, Prod.mk.injEq] at he
        obtain ⟨rfl, rfl⟩ := he
        obtain ⟨v, hr, hp⟩ := evShift_sound (P := P) (k' := k') hev hO t w E.I
        exact ⟨v, bin_exec ho hg (by rw [hx, hy]; exact hr), by simpa only [DV.rel] using hp⟩
      · cases he
    · split at he
      · rename_i hk
        obtain rfl : k = k' := by simpa using hk
        split at he
        · rename_i p O' hev
          simp only [Option.some.injEq, Prod.mk.injEq] at he
          obtain ⟨rfl, rfl⟩ := he
          obtain ⟨v, hr, hp⟩ := evInt_sound (P := P) hev hO t w E.I
          exact ⟨v, bin_exec ho hg (by rw [hx, hy]; exact hr), by simpa only [DV.rel] using hp⟩
        · cases he
      · cases he
  · rename_i m n h1 h2
    rw [h1] at hx
    rw [h2] at hy
    simp only [DV.rel, PD.rel] at hx hy
    have hg : (eqGuard op t x y (a.eval x) (a.eval y)).run P w = .ok () w := by rw [hx, hy]; exact guard_plain (by simp) (.inl (by simp))
    split at he
    · rename_i p O' hev
      simp only [Option.some.injEq, Prod.mk.injEq] at he
      obtain ⟨rfl, rfl⟩ := he
      obtain ⟨v, hr, hp⟩ := evStr_sound (P := P) hev hO t w E.I
      exact ⟨v, bin_exec ho hg (by rw [hx, hy]; exact hr), by simpa only [DV.rel] using hp⟩
    · cases he
  · rename_i m n h1 h2
    have hbt := boolTy_get (hb m n h1 h2)
    rw [h1] at hx
    rw [h2] at hy
    simp only [DV.rel, PD.rel] at hx hy
    have hg : (eqGuard op t x y (a.eval x) (a.eval y)).run P w = .ok () w := by rw [hx, hy]; exact guard_plain (by simp) (.inl (by simp))
    split at he
    · simp only [Option.some.injEq, Prod.mk.injEq] at he
      obtain ⟨rfl, rfl⟩ := he
      exact ⟨_, bin_exec ho hg (by rw [hx, hy]; exact run_eql_bool w t m n hbt), by simp only [DV.rel, PD.rel]⟩
    · simp only [Option.some.injEq, Prod.mk.injEq] at he
      obtain ⟨rfl, rfl⟩ := he
      exact ⟨_, bin_exec ho hg (by rw [hx, hy]; exact run_neq_bool w t m n hbt), by simp only [DV.rel, PD.rel]⟩
    · cases he
  · cases he

/-! ### One operand -/
def evUn (op : UnOp) (raw : Bool) (x : DV) : Option (DV × Prop) :=
  match op, x with
  | .not, .pd (.bool b) => some (.pd (.bool (!b)), True)
  | .neg, .pd (.int k n) => match raw with | true => some (.pd (.int k (k.wrap (0 - n))), True) | false => some (.pd (.int k (0 - n)), inR k (0 - n))
  | .xor, .pd (.int k n) => some (.pd (.int k (bitsOp .xor k (if k.signed then -1 else k.max) n)), True)
  | _, _ => none
theorem un_ok {o : Oper} {op : UnOp} {t : TypeId} {x : Operand} {raw : Bool} {d : DV} {O : Prop} (ho : o.op = .unOp op t x) (he : evUn op raw (evl st.tmps x) = some (d, O)) (hO : O) : ValOK P o st d := by
  intro X E a w hs
  have hx := evl_rel hs x
  unfold evUn at he
  split at he
  · rename_i b h1
    rw [h1] at hx
    simp only [DV.rel, PD.rel] at hx
    simp only [Option.some.injEq, Prod.mk.injEq] at he
    obtain ⟨rfl, rfl⟩ := he
    exact ⟨.bool (!b), exec_of (by simp [execOp, ho] <;> rfl) (by rw [hx]; rfl), by simp only [DV.rel, PD.rel]⟩
  · rename_i k n h1
    rw [h1] at hx
    simp only [DV.rel, PD.rel] at hx
    split at he <;> simp only [Option.some.injEq, Prod.mk.injEq] at he <;> obtain ⟨rfl, rfl⟩ := he
    · exact ⟨.int k (k.wrap (0 - n)), exec_of (by simp [execOp, ho] <;> rfl) (by rw [hx]; rfl), by simp only [DV.rel, PD.rel]⟩
    · exact ⟨.int k (k.wrap (0 - n)), exec_of (by simp [execOp, ho] <;> rfl) (by rw [hx]; rfl), by simp only [DV.rel, PD.rel]; rw [wrap_in hO]⟩
  · rename_i k n h1
    rw [h1] at hx
    simp only [DV.rel, PD.rel] at hx
    simp only [Option.some.injEq, Prod.mk.injEq] at he
    obtain ⟨rfl, rfl⟩ := he
    refine ⟨.int k (bitsOp .xor k (if k.signed then -1 else k.max) n), exec_of (by simp [execOp, ho] <;> rfl) (by rw [hx]; rfl), by simp only [DV.rel, PD.rel]⟩
  · cases he

/-! ### Conversions of ints, interface values, closures -/
def intTy (P : Program) (t : TypeId) : Option IntKind := match P.underlying t with | some (.int k) => some k | _ => none
theorem intTy_get {t : TypeId} {k : IntKind} (h : intTy P t = some k) : P.underlying t = some (.int k) := by
  unfold intTy at h
  split at h
  · rename_i hk; obtain rfl := Option.some.inj h; exact hk
  · cases h
def evConvInt (k : IntKind) (raw : Bool) (x : DV) : Option (DV × Prop) :=
  match x with
  | .pd (.int _ n) => match raw with
    | true => some (.pd (.int k (k.wrap n)), True)
    | false => some (.pd (.int k n), inR k n)
  | _ => none
theorem convInt_ok {o : Oper} {src dst : TypeId} {x : Operand} {k ks : IntKind} {raw : Bool} {d : DV} {O : Prop} (ho : o.op = .convert src dst x) (hk : intTy P dst = some k) (hsrc : intTy P src = some ks) (he : evConvInt k raw (evl st.tmps x) = some (d, O)) (hO : O) : ValOK P o st d := by
  intro X E a w hs
  have hx := evl_rel hs x
  have hd := intTy_get hk
  have hsr := intTy_get hsrc
  unfold evConvInt at he
  split at he
  · rename_i k' n h1
    rw [h1] at hx
    simp only [DV.rel, PD.rel] at hx
    have hrun : (convert src dst (a.eval x)).run P w = .ok (.int k (k.wrap n)) w := by
      rw [hx]
      simp only [convert, Sem.run_bind, run_underlying hsr w, run_underlying hd w, Result.andThen_ok, Conv.intToInt, Sem.run_pure]
    split at he <;> simp only [Option.some.injEq, Prod.mk.injEq] at he <;> obtain ⟨rfl, rfl⟩ := he
    · exact ⟨_, exec_of (by simp [execOp, ho] <;> rfl) hrun, by simp only [DV.rel, PD.rel]⟩
    · exact ⟨_, exec_of (by simp [execOp, ho] <;> rfl) hrun, by simp only [DV.rel, PD.rel]; rw [wrap_in hO]⟩
  · cases he
def evIface (t : TypeId) (x : DV) : DV :=
  match x with
  | .pd p => .pd (.iface t p)
  | d => .iface t d
def concrete (P : Program) (t : TypeId) : Bool := match P.underlying t with | some (.interface _) => false | some _ => true | none => false
theorem iface_ok {o : Oper} {t : TypeId} {x : Operand} (ho : o.op = .makeInterface t x) (hc : concrete P t = true) : ValOK P o st (evIface t (evl st.tmps x)) := by
  intro X E a w hs
  have hx := evl_rel hs x
  refine ⟨.iface t (a.eval x), exec_of (by simp [execOp, ho] <;> rfl) ?_, ?_⟩
  · unfold concrete at hc
    split at hc
    · cases hc
    · rename_i d hd hu
      unfold Instr.makeInterface
      rw [Sem.run_bind, run_underlying hu w, Result.andThen_ok]
      cases d <;> first | rfl | exact absurd rfl (hd _)
    · cases hc
  · unfold evIface
    split
    · rename_i p hp
      rw [hp] at hx
      simp only [DV.rel, PD.rel] at hx ⊢
      exact ⟨_, rfl, hx⟩
    · simp only [DV.rel]
      exact ⟨_, rfl, hx⟩
def evsl (ts : List DV) : List Operand → List DV
  | [] => []
  | x :: xs => evl ts x :: evsl ts xs
theorem evsl_rel (hs : StRel X E st a w) : ∀ (xs : List Operand), drelL E w (evsl st.tmps xs) (xs.map a.eval)
  | [] => by simp [evsl, drelL]
  | x :: xs => by
    simp only [evsl, List.map_cons, drelL]
    exact ⟨_, _, rfl, evl_rel hs x, evsl_rel hs xs⟩
theorem func_ok {o : Oper} {f : FuncId} {caps : Array Operand} (ho : o.op = .makeFunc (.func f) #[] caps) : ValOK P o st (.clo f (evsl st.tmps caps.toList)) := by
  intro X E a w hs
  refine ⟨.func (.func f) #[] (caps.map a.eval), exec_of (by simp [execOp, ho] <;> rfl) (by simp [Instr.makeFunc]), ?_⟩
  simp only [DV.rel]
  exact ⟨_, rfl, by simpa using evsl_rel hs caps.toList⟩
def isPtr : DV → Bool
  | .ptr _ _ | .dptr _ _ | .rptr _ _ _ _ => true
  | _ => false
theorem nil_ok {o : Oper} {x : Operand} (ho : o.op = .nilCheck x) (h : isPtr (evl st.tmps x) = true) : ValOK P o st (evl st.tmps x) := by
  intro X E a w hs
  have hx := evl_rel hs x
  refine ⟨a.eval x, ?_, hx⟩
  have : ∃ q, a.eval x = .pointer (some q) := by
    cases hd : evl st.tmps x <;> rw [hd] at h hx <;> simp only [isPtr] at h <;> try cases h
    · obtain ⟨b, _, hv⟩ := hx; exact ⟨_, hv⟩
    · obtain ⟨b, o, hv, _⟩ := hx; exact ⟨_, hv⟩
    · obtain ⟨b, l, c, _, hv⟩ := hx; exact ⟨_, hv⟩
  obtain ⟨q, hq⟩ := this
  simp [execOp, ho, hq]
end
end Go.FI
