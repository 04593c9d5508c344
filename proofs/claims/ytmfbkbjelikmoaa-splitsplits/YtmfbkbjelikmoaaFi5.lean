import Derived.Test.YtmfbkbjelikmoaaFi4
namespace Go.FI
open Go.RowKit

inductive Hint where
  | n
  | w
  | rd (E : List PD)
  | cell (d : DV)
  | fr (id : Nat)
  | nums (xs : List Int)
  | cs (cs : List DV)
  | call (res : DV) (H : List Ob) (scr : List Nat)
  | cp (res : PD)
  | yl (t : Bool) (H : List Ob) (scr : List Nat)
  | yx (chain : List PanicEntry) (H : List Ob) (scr : List Nat)
  | cx (chain : List PanicEntry) (H : List Ob) (scr : List Nat)
  | px (chain : List PanicEntry)

def undefD : DV := .pd (.tup [])
theorem undefD_rel (E : Env) (w : World) : undefD.rel E w undef := by simp [undefD, DV.rel, PD.rel, undef, relL]

/-! ### Constants, operands -/
def cvP : Value → Option PD
  | .int k n => some (.int k n)
  | .bool b => some (.bool b)
  | .string s => some (.str s)
  | .pointer none => some .nilp
  | .map none => some .nilm
  | .nilIface => some .nili
  | .nilFunc => some .nilf
  | .slice none 0 0 => some .nils
  | _ => none
theorem cvP_rel {I : Nat → Prop} {w : World} {v : Value} {p : PD} (h : cvP v = some p) : p.rel I w v := by
  unfold cvP at h
  split at h <;> first
    | (obtain rfl := Option.some.inj h; simp [PD.rel])
    | cases h
def cvL : List Value → Option (List PD)
  | [] => some []
  | v :: vs => match cvP v, cvL vs with
    | some p, some ps => some (p :: ps)
    | _, _ => none
theorem cvL_rel {I : Nat → Prop} {w : World} : ∀ {vs : List Value} {ps : List PD}, cvL vs = some ps → relL I w ps vs
  | [], ps, h => by obtain rfl := Option.some.inj h; simp [relL]
  | v :: vs, ps, h => by
    unfold cvL at h
    split at h
    · rename_i p qs hp hq
      obtain rfl := Option.some.inj h
      simp only [relL]
      exact ⟨v, vs, rfl, cvP_rel hp, cvL_rel hq⟩
    · cases h
def cv (v : Value) : DV :=
  match v with
  | .agg vs => match cvL vs.toList with | some ps => .pd (.agg ps) | none => .any
  | _ => match cvP v with | some p => .pd p | none => .any
theorem cv_rel (E : Env) (w : World) (v : Value) : (cv v).rel E w v := by
  unfold cv
  split
  · split
    · rename_i h
      simp only [DV.rel, PD.rel]
      exact ⟨_, rfl, cvL_rel h⟩
    · simp [DV.rel]
  · split
    · rename_i h
      simpa only [DV.rel] using cvP_rel h
    · simp [DV.rel]
def evl (ts : List DV) : Operand → DV
  | .tmp t => ts.getD t undefD
  | .const v => cv v
  | .func f => .pd (.fn f)
  | .global _ => .any
section
variable {P : Program} {X : Ctx} {E : Env} {st : St} {a : Act} {w : World}
theorem evl_rel (hs : StRel X E st a w) (x : Operand) : (evl st.tmps x).rel E w (a.eval x) := by
  cases x with
  | tmp t =>
    simp only [evl, Act.eval]
    cases ht : st.tmps[t]? with
    | none =>
      have hl := drelL_length hs.tmps
      have h1 : st.tmps.length ≤ t := List.getElem?_eq_none_iff.1 ht
      have h2 : a.tmps.toList.length ≤ t := by omega
      rw [List.getD_eq_getElem?_getD, ht]
      rw [Array.getD_eq_getD_getElem?, ← Array.getElem?_toList, List.getElem?_eq_none h2]
      exact undefD_rel E w
    | some d =>
      obtain ⟨v, hv, hr⟩ := drelL_get t d hs.tmps ht
      rw [List.getD_eq_getElem?_getD, ht, Array.getD_eq_getD_getElem?, ← Array.getElem?_toList, hv]
      exact hr
  | const v => exact cv_rel E w v
  | func f => simp [evl, Act.eval, DV.rel, PD.rel]
  | global g => simp [evl, DV.rel]
end

/-- An operation that reads alone, and what it gives. -/
def ValOK (P : Program) (o : Oper) (st : St) (d : DV) : Prop :=
  ∀ X E a w, StRel X E st a w → ∃ v, (execOp a.eval o).run P w = .ok (.value v) w ∧ d.rel E w v

/-- An operation, and what it leaves. -/
def OpOK (P : Program) (o : Oper) (st : St) (d : DV) (st' : St) : Prop :=
  ∀ X E a w, StRel X E st a w → ∀ (K : Act → World → Prop) (Q : Exit → Act → World → Prop), (∀ v E' w', d.rel E' w' v → StRel X E' st' a w' → K (a.put o.dst v) w') → o.wp P a w K Q

theorem ValOK.op {P : Program} {o : Oper} {st : St} {d : DV} (h : ValOK P o st d) : OpOK P o st d st := by
  intro X E a w hs K Q hK
  obtain ⟨v, hr, hv⟩ := h X E a w hs
  unfold Oper.wp
  rw [hr]
  exact hK v E w hv hs

/-! ### Ints -/
def inR (k : IntKind) (n : Int) : Prop := k.min ≤ n ∧ n ≤ k.max
theorem wrap_in {k : IntKind} {n : Int} (h : inR k n) : k.wrap n = n := by
  unfold inR at h
  cases k <;> simp only [IntKind.min, IntKind.max, IntKind.wrap, IntKind.signed, IntKind.bits] at h ⊢ <;> simp at h ⊢ <;> (try split) <;> omega
def bitsOp (op : BinOp) (k : IntKind) (x y : Int) : Int :=
  match op with
  | .and => k.wrap (BitVec.ofInt k.bits x &&& BitVec.ofInt k.bits y).toNat
  | .or => k.wrap (BitVec.ofInt k.bits x ||| BitVec.ofInt k.bits y).toNat
  | .xor => k.wrap (BitVec.ofInt k.bits x ^^^ BitVec.ofInt k.bits y).toNat
  | _ => k.wrap (BitVec.ofInt k.bits x &&& ~~~BitVec.ofInt k.bits y).toNat
def shlOp (k : IntKind) (x y : Int) : Int := k.wrap (x * 2 ^ (min y.toNat k.bits))
def shrOp (k : IntKind) (x y : Int) : Int := x.fdiv (2 ^ (min y.toNat k.bits))

/-- Two ints of one kind. raw: the wrap is kept. -/
def evInt (op : BinOp) (k : IntKind) (a b : Int) (raw : Bool) : Option (PD × Prop) :=
  match op with
  | .add => match raw with | true => some (.int k (k.wrap (a + b)), True) | false => some (.int k (a + b), inR k (a + b))
  | .sub => match raw with | true => some (.int k (k.wrap (a - b)), True) | false => some (.int k (a - b), inR k (a - b))
  | .mul => match raw with | true => some (.int k (k.wrap (a * b)), True) | false => some (.int k (a * b), inR k (a * b))
  | .quo => match raw with | true => some (.int k (k.wrap (a.tdiv b)), b ≠ 0) | false => some (.int k (a / b), 0 ≤ a ∧ 0 < b ∧ a ≤ k.max)
  | .rem => match raw with | true => some (.int k (a.tmod b), b ≠ 0) | false => some (.int k (a % b), 0 ≤ a ∧ b ≠ 0)
  | .and => some (.int k (bitsOp .and k a b), True)
  | .or => some (.int k (bitsOp .or k a b), True)
  | .xor => some (.int k (bitsOp .xor k a b), True)
  | .andNot => some (.int k (bitsOp .andNot k a b), True)
  | .eql => some (.bool (a == b), True)
  | .neq => some (.bool (a != b), True)
  | .lss => some (.bool (decide (a < b)), True)
  | .leq => some (.bool (decide (a ≤ b)), True)
  | .gtr => some (.bool (decide (a > b)), True)
  | .geq => some (.bool (decide (a ≥ b)), True)
  | _ => none
theorem kmin_le0 (k : IntKind) : k.min ≤ 0 := by cases k <;> decide
section
variable {P : Program} {t : TypeId} {w : World} {k : IntKind} {a b : Int}
theorem run_bin_add : (binOp .add t (.int k a) (.int k b)).run P w = .ok (.int k (k.wrap (a + b))) w := by simp [binOp, Op.intArith]
theorem run_bin_sub : (binOp .sub t (.int k a) (.int k b)).run P w = .ok (.int k (k.wrap (a - b))) w := by simp [binOp, Op.intArith]
theorem run_bin_mul : (binOp .mul t (.int k a) (.int k b)).run P w = .ok (.int k (k.wrap (a * b))) w := by simp [binOp, Op.intArith]
theorem run_bin_quo (h : b ≠ 0) : (binOp .quo t (.int k a) (.int k b)).run P w = .ok (.int k (k.wrap (a.tdiv b))) w := by simp [binOp, Op.intDiv, h]
theorem run_bin_rem (h : b ≠ 0) : (binOp .rem t (.int k a) (.int k b)).run P w = .ok (.int k (a.tmod b)) w := by simp [binOp, Op.intDiv, h]
theorem run_bin_bits {op : BinOp} (h : op = .and ∨ op = .or ∨ op = .xor ∨ op = .andNot) : (binOp op t (.int k a) (.int k b)).run P w = .ok (.int k (bitsOp op k a b)) w := by
  rcases h with rfl | rfl | rfl | rfl <;> simp only [binOp, Op.intBits, bitsOp, ne_eq, not_true_eq_false, if_false] <;> rfl
end
theorem evInt_sound {P : Program} {op : BinOp} {k : IntKind} {a b : Int} {raw : Bool} {p : PD} {O : Prop} (he : evInt op k a b raw = some (p, O)) (hO : O) (t : TypeId) (w : World) (I : Nat → Prop) :
    ∃ v, (binOp op t (.int k a) (.int k b)).run P w = .ok v w ∧ p.rel I w v := by
  cases op
  case add =>
    cases raw <;> simp only [evInt, Option.some.injEq, Prod.mk.injEq] at he <;> obtain ⟨rfl, rfl⟩ := he
    · exact ⟨_, run_bin_add, by simp only [PD.rel]; rw [wrap_in hO]⟩
    · exact ⟨_, run_bin_add, by simp only [PD.rel]⟩
  case sub =>
    cases raw <;> simp only [evInt, Option.some.injEq, Prod.mk.injEq] at he <;> obtain ⟨rfl, rfl⟩ := he
    · exact ⟨_, run_bin_sub, by simp only [PD.rel]; rw [wrap_in hO]⟩
    · exact ⟨_, run_bin_sub, by simp only [PD.rel]⟩
  case mul =>
    cases raw <;> simp only [evInt, Option.some.injEq, Prod.mk.injEq] at he <;> obtain ⟨rfl, rfl⟩ := he
    · exact ⟨_, run_bin_mul, by simp only [PD.rel]; rw [wrap_in hO]⟩
    · exact ⟨_, run_bin_mul, by simp only [PD.rel]⟩
  case quo =>
    cases raw <;> simp only [evInt, Option.some.injEq, Prod.mk.injEq] at he <;> obtain ⟨rfl, rfl⟩ := he
    · refine ⟨_, run_bin_quo (by omega), ?_⟩
      have hq : a.tdiv b = a / b := Int.tdiv_eq_ediv_of_nonneg hO.1
      have h1 : 0 ≤ a / b := Int.ediv_nonneg hO.1 (by omega)
      have h2 : a / b ≤ a := Int.ediv_le_self b hO.1
      have h3 := kmin_le0 k
      simp only [PD.rel]
      rw [hq, wrap_in ⟨by omega, by omega⟩]
    · exact ⟨_, run_bin_quo hO, by simp only [PD.rel]⟩
  case rem =>
    cases raw <;> simp only [evInt, Option.some.injEq, Prod.mk.injEq] at he <;> obtain ⟨rfl, rfl⟩ := he
    · exact ⟨_, run_bin_rem hO.2, by simp only [PD.rel]; rw [Int.tmod_eq_emod_of_nonneg hO.1]⟩
    · exact ⟨_, run_bin_rem hO, by simp only [PD.rel]⟩
  case and => simp only [evInt, Option.some.injEq, Prod.mk.injEq] at he; obtain ⟨rfl, rfl⟩ := he; exact ⟨_, run_bin_bits (by simp), by simp only [PD.rel]⟩
  case or => simp only [evInt, Option.some.injEq, Prod.mk.injEq] at he; obtain ⟨rfl, rfl⟩ := he; exact ⟨_, run_bin_bits (by simp), by simp only [PD.rel]⟩
  case xor => simp only [evInt, Option.some.injEq, Prod.mk.injEq] at he; obtain ⟨rfl, rfl⟩ := he; exact ⟨_, run_bin_bits (by simp), by simp only [PD.rel]⟩
  case andNot => simp only [evInt, Option.some.injEq, Prod.mk.injEq] at he; obtain ⟨rfl, rfl⟩ := he; exact ⟨_, run_bin_bits (by simp), by simp only [PD.rel]⟩
  case shl => simp [evInt] at he
  case shr => simp [evInt] at he
  all_goals
    simp only [evInt, Option.some.injEq, Prod.mk.injEq] at he
    obtain ⟨rfl, rfl⟩ := he
    exact ⟨_, by simp only [binOp, Op.intCmp, ne_eq, not_true_eq_false, if_false]; exact Sem.run_pure _ _ _, by simp only [PD.rel]⟩
def evShift (op : BinOp) (k : IntKind) (a b : Int) : Option (PD × Prop) :=
  match op with
  | .shl => some (.int k (shlOp k a b), 0 ≤ b)
  | .shr => some (.int k (shrOp k a b), 0 ≤ b)
  | _ => none
theorem evShift_sound {P : Program} {op : BinOp} {k k' : IntKind} {a b : Int} {p : PD} {O : Prop} (he : evShift op k a b = some (p, O)) (hO : O) (t : TypeId) (w : World) (I : Nat → Prop) :
    ∃ v, (binOp op t (.int k a) (.int k' b)).run P w = .ok v w ∧ p.rel I w v := by
  cases op <;> first
    | (simp [evShift] at he; done)
    | (simp only [evShift, Option.some.injEq, Prod.mk.injEq] at he
       obtain ⟨rfl, rfl⟩ := he
       have h0 : ¬ b < 0 := by omega
       exact ⟨_, by simp only [binOp, Op.shift, h0, if_false]; exact Sem.run_pure _ _ _, by simp only [PD.rel, shlOp, shrOp]⟩)
end Go.FI
