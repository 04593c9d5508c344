import Derived.Test.YtmfbkbjelikmoaaFi14
import Derived.ChangeKeysEq
import Derived.Laws.Cover3
namespace Go.FI
open Go.RowKit

/-! ### Equality of arrays; slices against nil -/
def itemEq (P : Program) (e : TypeId) (p q : PD) : Option Bool :=
  match P.underlying e with
  | some (.int _) => match p, q with
    | .int k a, .int k' b => match decide (k = k') with | true => some (a == b) | false => none
    | _, _ => none
  | some .bool => match p, q with
    | .bool a, .bool b => some (a == b)
    | _, _ => none
  | some .string => match p, q with
    | .str a, .str b => some (a.toList == b.toList)
    | _, _ => none
  | _ => none
def arrEq (P : Program) (e : TypeId) : List PD → List PD → Option Bool
  | [], [] => some true
  | p :: ps, q :: qs => match itemEq P e p q, arrEq P e ps qs with
    | some a, some b => some (a && b)
    | _, _ => none
  | _, _ => none
section
variable {P : Program} {X : Ctx} {E : Env} {st : St} {a : Act} {w : World}
theorem itemEq_ok {I : Nat → Prop} {e : TypeId} {p q : PD} {b : Bool} (h : itemEq P e p q = some b) {u v : Value} (hp : p.rel I w u) (hq : q.rel I w v) (d : Nat) : P.plainKey e = true ∧ (Op.equalIn (d + 1) e u v).run P w = .ok b w := by
  unfold itemEq at h
  split at h
  · rename_i k0 hu
    split at h
    · rename_i k x k' y
      split at h
      · rename_i hk
        obtain rfl : k = k' := by simpa using hk
        obtain rfl := Option.some.inj h
        simp only [PD.rel] at hp hq
        subst hp hq
        exact ⟨by simp [Program.plainKey, hu], run_equalIn_int w d e k k0 x y hu⟩
      · cases h
    · cases h
  · rename_i hu
    split at h
    · rename_i x y
      obtain rfl := Option.some.inj h
      simp only [PD.rel] at hp hq
      subst hp hq
      exact ⟨by simp [Program.plainKey, hu], run_equalIn_bool' w d e x y hu⟩
    · cases h
  · rename_i hu
    split at h
    · rename_i x y
      obtain rfl := Option.some.inj h
      simp only [PD.rel] at hp hq
      subst hp hq
      exact ⟨by simp [Program.plainKey, hu], run_equalIn_string w d e x y hu⟩
    · cases h
  · cases h
theorem eqItems_ok {I : Nat → Prop} {e : TypeId} (d : Nat) (xs ys : Array Value) : ∀ (ps qs : List PD) (b : Bool) (k : Nat), arrEq P e ps qs = some b → relL I w ps (xs.toList.drop k) → relL I w qs (ys.toList.drop k) →
    (Op.eqItems (d + 1) e 1 xs ys (List.range' k ps.length)).run P w = .ok b w
  | [], [], b, k, h, _, _ => by
    simp only [arrEq, Option.some.injEq] at h
    subst h
    simp [Op.eqItems]
  | p :: ps, q :: qs, b, k, h, hp, hq => by
    unfold arrEq at h
    split at h
    · rename_i c1 c2 h1 h2
      obtain rfl := Option.some.inj h
      simp only [relL] at hp hq
      obtain ⟨u, us, eu, hu, hp'⟩ := hp
      obtain ⟨v, vs, ev, hv, hq'⟩ := hq
      have hxu : xs[k]? = some u := by rw [← Array.getElem?_toList, ← Nat.add_zero k, ← List.getElem?_drop, eu]; rfl
      have hyv : ys[k]? = some v := by rw [← Array.getElem?_toList, ← Nat.add_zero k, ← List.getElem?_drop, ev]; rfl
      have eu' : xs.toList.drop (k + 1) = us := by rw [← List.drop_drop, eu]; rfl
      have ev' : ys.toList.drop (k + 1) = vs := by rw [← List.drop_drop, ev]; rfl
      obtain ⟨hpl, hr⟩ := itemEq_ok h1 hu hv d
      have ih := eqItems_ok d xs ys ps qs c2 (k + 1) h2 (by rw [eu']; exact hp') (by rw [ev']; exact hq')
      simp only [List.length_cons, List.range'_succ, Op.eqItems, Nat.mul_one, Sem.run_bind, run_part_plain w hpl hxu, run_part_plain w hpl hyv, hr, Result.andThen_ok]
      cases c1
      · simp
      · simpa using ih
    · cases h
  | [], _ :: _, _, _, h, _, _ => by cases h
  | _ :: _, [], _, _, h, _, _ => by cases h
def aggEq (P : Program) (t : TypeId) (xs ys : List PD) : Option Bool :=
  match P.underlying t with
  | some (.array n e) => match Nat.beq n xs.length, P.info? e, P.eqGuardType P.depth t with
    | true, some i, false => match i.size with
      | 1 => arrEq P e xs ys
      | _ => none
    | _, _, _ => none
  | _ => none
theorem aggEq_ok {I : Nat → Prop} {t : TypeId} {xs ys : List PD} {b : Bool} (h : aggEq P t xs ys = some b) {us vs : Array Value} (hx : relL I w xs us.toList) (hy : relL I w ys vs.toList) :
    (Op.equal t (.agg us) (.agg vs)).run P w = .ok b w ∧ P.eqGuardType P.depth t = false := by
  unfold aggEq at h
  split at h
  · rename_i n e hu
    split at h
    · rename_i i hn hi hg
      split at h
      · rename_i hsz
        refine ⟨?_, hg⟩
        have hn' := Nat.eq_of_beq_eq_true hn
        have hc : P.cellsOf e = 1 := by simp [Program.cellsOf, hi, hsz]
        have hm : Op.maxDepth = 9998 + 1 + 1 := rfl
        rw [Op.equal, hm, run_equalIn_array w (9998 + 1) us vs hu hi, hc, List.range_eq_range', hn']
        exact eqItems_ok 9998 us vs xs ys b 0 h (by simpa using hx) (by simpa using hy)
      · cases h
    · cases h
  · cases h
def eqRes (op : BinOp) (b : Bool) : Option DV :=
  match op with
  | .eql => some (.pd (.bool b))
  | .neq => some (.pd (.bool (!b)))
  | _ => none
def evAggEq (P : Program) (op : BinOp) (t : TypeId) (x y : DV) : Option DV :=
  match x, y with
  | .pd (.agg xs), .pd (.agg ys) => match aggEq P t xs ys with
    | some b => eqRes op b
    | none => none
  | _, _ => none
theorem aggBin_ok {o : Oper} {op : BinOp} {t u : TypeId} {x y : Operand} {d : DV} (ho : o.op = .binOp op t x y u) (he : evAggEq P op t (evl st.tmps x) (evl st.tmps y) = some d) : ValOK P o st d := by
  intro X E a w hs
  have hx := evl_rel hs x
  have hy := evl_rel hs y
  unfold evAggEq at he
  split at he
  · rename_i xs ys h1 h2
    rw [h1] at hx
    rw [h2] at hy
    simp only [DV.rel, PD.rel] at hx hy
    obtain ⟨us, hus, hx⟩ := hx
    obtain ⟨vs, hvs, hy⟩ := hy
    split at he
    · rename_i b hb
      obtain ⟨hr, hg⟩ := aggEq_ok (w := w) hb hx hy
      have hgd : (eqGuard op t x y (a.eval x) (a.eval y)).run P w = .ok () w := by
        rw [hus, hvs]
        cases op <;> first | rfl | (simp [eqGuard, Sem.run_bind, hg])
      unfold eqRes at he
      split at he
      · obtain rfl := Option.some.inj he
        exact ⟨.bool b, bin_exec ho hgd (by rw [hus, hvs]; simp [binOp, hr]), by simp [DV.rel, PD.rel]⟩
      · obtain rfl := Option.some.inj he
        exact ⟨.bool (!b), bin_exec ho hgd (by rw [hus, hvs]; simp [binOp, hr]), by simp [DV.rel, PD.rel]⟩
      · cases he
    · cases he
  · cases he
def isSliceTy (P : Program) (t : TypeId) : Bool := match P.underlying t with | some (.slice _) => true | _ => false
/-- A slice against nil. -/
def evNilS (P : Program) (op : BinOp) (t : TypeId) (x y : DV) : Option DV :=
  match isSliceTy P t, y with
  | true, .pd .nils => match x with
    | .pd .nils => eqRes op true
    | .nn _ _ => eqRes op false
    | .nl => eqRes op true
    | _ => none
  | _, _ => none
theorem nilBin_ok {o : Oper} {op : BinOp} {t u : TypeId} {x y : Operand} {d : DV} (ho : o.op = .binOp op t x y u) (he : evNilS P op t (evl st.tmps x) (evl st.tmps y) = some d) : ValOK P o st d := by
  intro X E a w hs
  have hx := evl_rel hs x
  have hy := evl_rel hs y
  unfold evNilS at he
  split at he
  · rename_i ht h2
    rw [h2] at hy
    simp only [DV.rel, PD.rel] at hy
    have hu : ∃ e, P.underlying t = some (.slice e) := by
      unfold isSliceTy at ht
      split at ht
      · exact ⟨_, by assumption⟩
      · cases ht
    obtain ⟨e, hu⟩ := hu
    have fin : ∀ A l c b, a.eval x = .slice A l c → A.isNone = b → eqRes op b = some d → ∃ v, (execOp a.eval o).run P w = .ok (.value v) w ∧ d.rel E w v := by
      intro A l c b hv hb hd
      have hgd : (eqGuard op t x y (a.eval x) (a.eval y)).run P w = .ok () w := by rw [hv]; exact guard_plain (by simp) (.inl (by simp))
      have hr := run_equal_slice_nil (P := P) w t e A l c hu
      unfold eqRes at hd
      split at hd
      · obtain rfl := Option.some.inj hd
        exact ⟨.bool b, bin_exec ho hgd (by rw [hv, hy]; simp [binOp, hr, hb]), by simp [DV.rel, PD.rel]⟩
      · obtain rfl := Option.some.inj hd
        exact ⟨.bool (!b), bin_exec ho hgd (by rw [hv, hy]; simp [binOp, hr, hb]), by simp [DV.rel, PD.rel]⟩
      · cases hd
    split at he
    · rename_i h1
      rw [h1] at hx
      simp only [DV.rel, PD.rel] at hx
      exact fin none 0 0 true hx rfl he
    · rename_i sz es h1
      rw [h1] at hx
      simp only [DV.rel] at hx
      obtain ⟨_, A, l, c, hv⟩ := hx
      exact fin (some A) l c false hv rfl he
    · rename_i h1
      rw [h1] at hx
      simp only [DV.rel] at hx
      obtain ⟨c, hv⟩ := hx
      exact fin none 0 c true hv rfl he
    · cases he
  · cases he
end
end Go.FI
