import Derived.Test.YtmfbkbjelikmoaaFi7
namespace Go.FI
open Go.RowKit

section
variable {P : Program} {X : Ctx} {E : Env} {st : St} {a : Act} {w : World}

/-! ### Elements' places -/
def sliceOf (P : Program) (t : TypeId) : Option Nat :=
  match P.underlying t with
  | some (.slice e) => match P.info? e with | some i => some i.size | none => none
  | _ => none
theorem sliceOf_get {t : TypeId} {n : Nat} (h : sliceOf P t = some n) : ∃ e i, P.underlying t = some (.slice e) ∧ P.info? e = some i ∧ i.size = n := by
  unfold sliceOf at h
  split at h
  · rename_i e he
    split at h
    · rename_i i hi; obtain rfl := Option.some.inj h; exact ⟨e, i, he, hi, rfl⟩
    · cases h
  · cases h
def arrayOf (P : Program) (t : TypeId) : Option (Nat × Nat) :=
  match P.underlying t with
  | some (.array n e) => match P.info? e with | some i => some (n, i.size) | none => none
  | _ => none
theorem arrayOf_get {t : TypeId} {m n : Nat} (h : arrayOf P t = some (m, n)) : ∃ e i, P.underlying t = some (.array m e) ∧ P.info? e = some i ∧ i.size = n := by
  unfold arrayOf at h
  split at h
  · rename_i k e he
    split at h
    · rename_i i hi
      simp only [Option.some.injEq, Prod.mk.injEq] at h
      obtain ⟨rfl, rfl⟩ := h
      exact ⟨e, i, he, hi, rfl⟩
    · cases h
  · cases h
theorem run_ixSlice {t e : TypeId} {i : TypeInfo} (ht : P.underlying t = some (.slice e)) (hi : P.info? e = some i) (b o len cap : Nat) (k : IntKind) (j : Int) (h0 : 0 ≤ j) (h1 : j < len) :
    (Instr.indexAt t (.slice (some ⟨b, o, none⟩) len cap) (.int k j)).run P w = .ok (.pointer (some ⟨b, o + j.toNat * i.size, none⟩)) w := by
  simp [Instr.indexAt, asIntOf, run_underlying ht, h0, h1, run_sizeOf w hi, add_at]
theorem run_ixArray {t e : TypeId} {i : TypeInfo} {m : Nat} (ht : P.underlying t = some (.array m e)) (hi : P.info? e = some i) (b o : Nat) (k : IntKind) (j : Int) (h0 : 0 ≤ j) (h1 : j < m) :
    (Instr.indexAt t (.pointer (some ⟨b, o, none⟩)) (.int k j)).run P w = .ok (.pointer (some ⟨b, o + j.toNat * i.size, none⟩)) w := by
  simp [Instr.indexAt, asIntOf, run_underlying ht, h0, h1, run_sizeOf w hi, add_at, Instr.sureAddr]
def evIxSlice (esz : Nat) (H : List Ob) (x i : DV) (h : Hint) : Option (DV × Prop) :=
  match i with
  | .pd (.int _ j) => match x with
    | .pd (.ds sz es) => match sz == esz, h with
      | true, .rd e => some (.dptr e 0, 0 ≤ j ∧ j < es.length ∧ es[j.toNat]? = some e)
      | _, _ => none
    | .sl id n => match H[id]? with
      | some (.row _ sz _) => match sz == esz with
        | true => some (.rptr id j.toNat sz 0, 0 ≤ j ∧ j < n)
        | false => none
      | _ => none
    | .asl id off n _ => some (.ptr id (off + j.toNat * esz), 0 ≤ j ∧ j < n)
    | _ => none
  | _ => none
theorem relRow_drop {I : Nat → Prop} {b : Nat} {sz : Nat} : ∀ {es : List (List PD)} {o : Nat} (n : Nat), relRow I w b o es → (∀ e ∈ es, e.length = sz) → n ≤ es.length → relRow I w b (o + n * sz) (es.drop n)
  | [], _, n, _, _, _ => by simp [relRow]
  | e :: es, o, n, h, hl, hn => by
    match n with
    | 0 => simpa using h
    | n + 1 =>
      simp only [relRow] at h
      have := relRow_drop (o := o + e.length) n h.2 (fun e' h' => hl e' (List.mem_cons_of_mem _ h')) (by simpa using hn)
      rw [hl e (by simp)] at this
      rw [Nat.succ_mul, Nat.add_comm (n * sz), ← Nat.add_assoc]
      simpa using this
theorem relRow_take {I : Nat → Prop} {b : Nat} : ∀ {es : List (List PD)} {o : Nat} (n : Nat), relRow I w b o es → relRow I w b o (es.take n)
  | [], _, _, _ => by simp [relRow]
  | e :: es, o, n, h => by
    match n with
    | 0 => simp [relRow]
    | n + 1 =>
      simp only [relRow, List.take_succ_cons] at h ⊢
      exact ⟨h.1, relRow_take n h.2⟩
theorem row_len {e : TypeId} {sz : Nat} {es : List (List PD)} {id : Nat} {A : Option Addr} {l c : Nat} (hr : (Ob.row e sz es).rel E w id) (hm : E.mu id = .slice A l c) : l = es.length := by
  obtain ⟨xs, ho, _⟩ := hr
  rw [hm] at ho
  rcases ho.2 with ⟨h, h0⟩ | ⟨g, cap, cur, h, _⟩
  · injection h with h1 h2 h3; omega
  · injection h
theorem row_cap {e : TypeId} {sz : Nat} {es : List (List PD)} {id : Nat} {A : Option Addr} {l c : Nat} (hr : (Ob.row e sz es).rel E w id) (hm : E.mu id = .slice A l c) : l ≤ c := by
  obtain ⟨xs, ho, _⟩ := hr
  rw [hm] at ho
  rcases ho.2 with ⟨h, h0⟩ | ⟨g, cap, cur, h, _, _, h1, _⟩
  · injection h; omega
  · injection h with h2 h3 h4; omega
theorem row_form {e : TypeId} {sz : Nat} {es : List (List PD)} {id : Nat} {A : Option Addr} {l c : Nat} (hr : (Ob.row e sz es).rel E w id) (hm : E.mu id = .slice A l c) (h0 : 0 < l) : ∃ b, A = some ⟨b, 0, none⟩ := by
  obtain ⟨xs, ho, _⟩ := hr
  rw [hm] at ho
  rcases ho.2 with ⟨h, h0⟩ | ⟨g, cap, cur, h, _⟩
  · injection h; omega
  · injection h with h1; exact ⟨g, h1⟩
theorem ixSlice_ok {o : Oper} {t : TypeId} {x i : Operand} {esz : Nat} {h : Hint} {d : DV} {O : Prop} (ho : o.op = .indexAddr t x i) (ht : sliceOf P t = some esz)
    (he : evIxSlice esz st.heap (evl st.tmps x) (evl st.tmps i) h = some (d, O)) (hO : O) : ValOK P o st d := by
  intro X E a w hs
  have hx := evl_rel hs x
  have hi := evl_rel hs i
  obtain ⟨e, inf, hu, hinf, rfl⟩ := sliceOf_get ht
  unfold evIxSlice at he
  split at he
  · rename_i k j hj
    rw [hj] at hi
    simp only [DV.rel, PD.rel] at hi
    have fin : ∀ b q len cap, a.eval x = .slice (some ⟨b, q, none⟩) len cap → 0 ≤ j → j < len → (∀ v, v = .pointer (some ⟨b, q + j.toNat * inf.size, none⟩) → d.rel E w v) → ∃ v, (execOp a.eval o).run P w = .ok (.value v) w ∧ d.rel E w v :=
      fun b q len cap hv h0 h1 hd => ⟨_, exec_of (by simp [execOp, ho] <;> rfl) (by rw [hv, hi]; exact run_ixSlice hu hinf b q len cap k j h0 h1), hd _ rfl⟩
    split at he
    · rename_i sz es hd
      rw [hd] at hx
      split at he
      · rename_i el hsz
        obtain rfl : sz = inf.size := by simpa using hsz
        simp only [Option.some.injEq, Prod.mk.injEq] at he
        obtain ⟨rfl, rfl⟩ := he
        simp only [DV.rel, PD.rel] at hx
        obtain ⟨A, c, hv, hc, hl, hne⟩ := hx
        obtain ⟨h0, h1, hel⟩ := hO
        obtain ⟨b, q, rfl, hb, hrow⟩ := hne (by rintro rfl; simp at hel)
        refine fin b q _ c hv h0 h1 fun v hv' => ?_
        simp only [DV.rel]
        refine ⟨b, q + j.toNat * inf.size, by simpa using hv', hb, ?_⟩
        have hlt : j.toNat < es.length := (List.getElem?_eq_some_iff.1 hel).1
        have := relRow_drop j.toNat hrow hl (Nat.le_of_lt hlt)
        rw [List.drop_eq_getElem_cons hlt] at this
        simp only [relRow] at this
        have he' : es[j.toNat] = el := by
          rw [List.getElem?_eq_getElem hlt] at hel
          exact Option.some.inj hel
        rw [he'] at this
        exact this.1
      · cases he
    · rename_i id n hd
      rw [hd] at hx
      split at he
      · rename_i e' sz es hH
        split at he
        · rename_i hsz
          obtain rfl : sz = inf.size := by simpa using hsz
          simp only [Option.some.injEq, Prod.mk.injEq] at he
          obtain ⟨rfl, rfl⟩ := he
          obtain ⟨A, l, c, hm, hnl, hv⟩ := hx
          obtain ⟨b, rfl⟩ := row_form (hs.heap.ob id _ hH) hm (by omega)
          refine fin b 0 n c hv hO.1 hO.2 fun v hv' => ?_
          simp only [DV.rel]
          exact ⟨b, l, c, hm, by rw [hv']; simp⟩
        · cases he
      · cases he
    · rename_i id off n c hd
      rw [hd] at hx
      simp only [Option.some.injEq, Prod.mk.injEq] at he
      obtain ⟨rfl, rfl⟩ := he
      obtain ⟨b, hm, hv⟩ := hx
      refine fin b off n c hv hO.1 hO.2 fun v hv' => ?_
      simp only [DV.rel]
      exact ⟨b, hm, hv'⟩
    · cases he
  · cases he
def evIxArray (m esz : Nat) (x i : DV) : Option (DV × Prop) :=
  match i with
  | .pd (.int _ j) => match x with
    | .ptr id off => some (.ptr id (off + j.toNat * esz), 0 ≤ j ∧ j < m)
    | .dptr cs off => some (.dptr cs (off + j.toNat * esz), 0 ≤ j ∧ j < m)
    | _ => none
  | _ => none
theorem ixArray_ok {o : Oper} {t : TypeId} {x i : Operand} {m esz : Nat} {d : DV} {O : Prop} (ho : o.op = .indexAddr t x i) (ht : arrayOf P t = some (m, esz))
    (he : evIxArray m esz (evl st.tmps x) (evl st.tmps i) = some (d, O)) (hO : O) : ValOK P o st d := by
  intro X E a w hs
  have hx := evl_rel hs x
  have hi := evl_rel hs i
  obtain ⟨e, inf, hu, hinf, rfl⟩ := arrayOf_get ht
  unfold evIxArray at he
  split at he
  · rename_i k j hj
    rw [hj] at hi
    simp only [DV.rel, PD.rel] at hi
    split at he
    · rename_i id off hd
      rw [hd] at hx
      simp only [Option.some.injEq, Prod.mk.injEq] at he
      obtain ⟨rfl, rfl⟩ := he
      obtain ⟨b, hm, hv⟩ := hx
      exact ⟨_, exec_of (by simp [execOp, ho] <;> rfl) (by rw [hv, hi]; exact run_ixArray hu hinf b off k j hO.1 hO.2), by simp only [DV.rel]; exact ⟨b, hm, rfl⟩⟩
    · rename_i cs off hd
      rw [hd] at hx
      simp only [Option.some.injEq, Prod.mk.injEq] at he
      obtain ⟨rfl, rfl⟩ := he
      obtain ⟨b, q, hv, hb, hx⟩ := hx
      exact ⟨_, exec_of (by simp [execOp, ho] <;> rfl) (by rw [hv, hi]; exact run_ixArray hu hinf b _ k j hO.1 hO.2), by simp only [DV.rel]; exact ⟨b, q, by rw [Nat.add_assoc], hb, hx⟩⟩
    · cases he
  · cases he

/-! ### Cuts -/
theorem run_bounds (sl : Bool) (len cap : Nat) (lo hi : Option Value) (l h : Nat)
    (hh : (hi = none ∧ h = len) ∨ ∃ k i, hi = some (.int k i) ∧ 0 ≤ i ∧ i ≤ cap ∧ h = i.toNat)
    (hl : (lo = none ∧ l = 0) ∨ ∃ k i, lo = some (.int k i) ∧ 0 ≤ i ∧ i ≤ h ∧ l = i.toNat) : (Instr.sliceBounds sl len cap lo hi none).run P w = .ok (l, h, cap) w := by
  rcases hh with ⟨rfl, rfl⟩ | ⟨k, i, rfl, h0, h1, rfl⟩ <;> rcases hl with ⟨rfl, rfl⟩ | ⟨k', i', rfl, h0', h1', rfl⟩
  · simp [Instr.sliceBounds]
  · simp [Instr.sliceBounds, Instr.sliceBound, asIntOf, h0', h1']
  · simp [Instr.sliceBounds, Instr.sliceBound, asIntOf, h0, h1]
  · have h2 : i' ≤ (i.toNat : Int) := h1'
    have h3 : i' ≤ max i 0 := by omega
    simp [Instr.sliceBounds, Instr.sliceBound, asIntOf, h0, h1, h0', h3]
theorem run_sliceSl {t e : TypeId} {i : TypeInfo} (ht : P.underlying t = some (.slice e)) (hi : P.info? e = some i) (A : Option Addr) (len cap : Nat) (lo hi' : Option Value) (l h : Nat)
    (hb : (Instr.sliceBounds true len cap lo hi' none).run P w = .ok (l, h, cap) w) :
    (Instr.sliceAt t (.slice A len cap) lo hi' none).run P w = .ok (.slice (if cap = l then A else A.map (·.add (l * i.size))) (h - l) (cap - l)) w := by
  simp [Instr.sliceAt, run_underlying ht, Instr.slice, hb, run_sizeOf w hi]
theorem run_sliceArr {t e : TypeId} {i : TypeInfo} {m : Nat} (ht : P.underlying t = some (.array m e)) (hi : P.info? e = some i) (b o : Nat) (lo hi' : Option Value) (l h : Nat)
    (hb : (Instr.sliceBounds false m m lo hi' none).run P w = .ok (l, h, m) w) :
    (Instr.sliceAt t (.pointer (some ⟨b, o, none⟩)) lo hi' none).run P w = .ok (.slice (some (if m = l then ⟨b, o, none⟩ else ⟨b, o + l * i.size, none⟩)) (h - l) (m - l)) w := by
  simp [Instr.sliceAt, run_underlying ht, hb, run_sizeOf w hi, Instr.sureAddr, add_at]
theorem run_sliceStr {t : TypeId} (ht : P.underlying t = some .string) (s : ByteArray) (lo hi' : Option Value) (l h : Nat)
    (hb : (Instr.sliceBounds false s.size s.size lo hi' none).run P w = .ok (l, h, s.size) w) :
    (Instr.sliceAt t (.string s) lo hi' none).run P w = .ok (.string (s.extract l h)) w := by
  simp [Instr.sliceAt, run_underlying ht, Instr.slice, hb]

/-- A bound of a cut: none, or an int. -/
def evB (ts : List DV) : Option Operand → Option (Option Int)
  | none => some none
  | some x => match evl ts x with
    | .pd (.int _ i) => some (some i)
    | _ => none
theorem evB_get (hs : StRel X E st a w) {x : Option Operand} {r : Option Int} (h : evB st.tmps x = some r) :
    (x.map a.eval = none ∧ r = none) ∨ ∃ k i, x.map a.eval = some (.int k i) ∧ r = some i := by
  cases x with
  | none => simp only [evB, Option.some.injEq] at h; exact .inl ⟨rfl, h.symm⟩
  | some y =>
    simp only [evB] at h
    split at h
    · rename_i k i hy
      have hr := evl_rel hs y
      rw [hy] at hr
      simp only [DV.rel, PD.rel] at hr
      exact .inr ⟨k, i, by simp [hr], (Option.some.inj h).symm⟩
    · cases h
def evCut (esz : Nat) (H : List Ob) (x : DV) (lo hi : Option Int) : Option (DV × Prop) :=
  match x with
  | .pd (.ds sz es) => match sz == esz with
    | true => match lo, hi with
      | none, none => some (.pd (.ds sz es), True)
      | some l, none => some (.pd (.ds sz (es.drop l.toNat)), 0 ≤ l ∧ l ≤ es.length)
      | none, some h => some (.pd (.ds sz (es.take h.toNat)), 0 ≤ h ∧ h ≤ es.length)
      | some l, some h => some (.pd (.ds sz ((es.take h.toNat).drop l.toNat)), 0 ≤ l ∧ l ≤ h ∧ h ≤ es.length)
    | false => none
  | .sl id n => match lo, hi, H[id]? with
    | none, none, _ => some (.sl id n, True)
    | none, some h, some (.row _ _ _) => some (.sl id h.toNat, 0 ≤ h ∧ h ≤ n)
    | _, _, _ => none
  | .pd .nils => match lo, hi with
    | none, none => some (.pd .nils, True)
    | _, _ => none
  | .asl id off n c => match lo, hi with
    | none, none => some (.asl id off n c, True)
    | none, some h => some (.asl id off h.toNat c, 0 ≤ h ∧ h ≤ n ∧ n ≤ c)
    | _, _ => none
  | _ => none
theorem cut_ok {o : Oper} {t : TypeId} {x : Operand} {lo hi : Option Operand} {rl rh : Option Int} {esz : Nat} {d : DV} {O : Prop} (ho : o.op = .slice t x lo hi none) (ht : sliceOf P t = some esz)
    (hlo : evB st.tmps lo = some rl) (hhi : evB st.tmps hi = some rh) (he : evCut esz st.heap (evl st.tmps x) rl rh = some (d, O)) (hO : O) : ValOK P o st d := by
  intro X E a w hs
  have hx := evl_rel hs x
  obtain ⟨e, inf, hu, hinf, rfl⟩ := sliceOf_get ht
  have hl := evB_get hs hlo
  have hh := evB_get hs hhi
  have fin : ∀ A len cap l h, a.eval x = .slice A len cap → (Instr.sliceBounds true len cap (lo.map a.eval) (hi.map a.eval) none).run P w = .ok (l, h, cap) w →
      d.rel E w (.slice (if cap = l then A else A.map (·.add (l * inf.size))) (h - l) (cap - l)) → ∃ v, (execOp a.eval o).run P w = .ok (.value v) w ∧ d.rel E w v := fun A len cap l h hv hb hd =>
    ⟨_, exec_of (s := Instr.sliceAt t (a.eval x) (lo.map a.eval) (hi.map a.eval) none) (by simp [execOp, ho]) (by rw [hv]; exact run_sliceSl hu hinf A len cap _ _ l h hb), hd⟩
  unfold evCut at he
  split at he
  · rename_i sz es hd
    rw [hd] at hx
    split at he
    · rename_i hsz
      obtain rfl : sz = inf.size := by simpa using hsz
      simp only [DV.rel, PD.rel] at hx
      obtain ⟨A, c, hv, hc, hlen, hne⟩ := hx
      -- the cells of a cut
      have cutd : ∀ l h : Nat, l ≤ h → h ≤ es.length → (DV.pd (.ds inf.size ((es.take h).drop l))).rel E w (.slice (if c = l then A else A.map (·.add (l * inf.size))) (h - l) (c - l)) := by
        intro l h hlh hhe
        simp only [DV.rel, PD.rel]
        refine ⟨_, c - l, by simp only [List.length_drop, List.length_take]; rw [Nat.min_eq_left hhe], by simp only [List.length_drop, List.length_take]; omega, fun z hz => hlen z (List.mem_of_mem_take (List.mem_of_mem_drop hz)), fun hnn => ?_⟩
        have hlt : l < h := by
          rcases Nat.lt_or_ge l h with h1 | h1
          · exact h1
          · exact absurd (List.drop_eq_nil_of_le (by simp only [List.length_take]; omega)) hnn
        obtain ⟨b, q, rfl, hb, hrow⟩ := hne (by rintro rfl; simp at hhe; omega)
        rw [if_neg (by omega)]
        refine ⟨b, q + l * inf.size, by simp [add_at], hb, ?_⟩
        exact relRow_drop l (relRow_take h hrow) (fun z hz => hlen z (List.mem_of_mem_take hz)) (by simp only [List.length_take]; omega)
      split at he <;> simp only [Option.some.injEq, Prod.mk.injEq] at he <;> obtain ⟨rfl, rfl⟩ := he
      · rcases hl with ⟨hl, _⟩ | ⟨_, _, _, hl⟩
        · rcases hh with ⟨hh, _⟩ | ⟨_, _, _, hh⟩
          · refine fin A es.length c 0 es.length hv (run_bounds true _ _ _ _ _ _ (.inl ⟨hh, rfl⟩) (.inl ⟨hl, rfl⟩)) ?_
            simpa using cutd 0 es.length (by omega) (Nat.le_refl _)
          · cases hh
        · cases hl
      · rename_i lv
        obtain ⟨h0, h1⟩ := hO
        rcases hl with ⟨_, hl⟩ | ⟨k, i, hl, hl'⟩
        · cases hl
        · obtain rfl := Option.some.inj hl'
          rcases hh with ⟨hh, _⟩ | ⟨_, _, _, hh⟩
          · refine fin A es.length c lv.toNat es.length hv (run_bounds true _ _ _ _ _ _ (.inl ⟨hh, rfl⟩) (.inr ⟨k, lv, hl, h0, h1, rfl⟩)) ?_
            simpa using cutd lv.toNat es.length (by omega) (Nat.le_refl _)
          · cases hh
      · rename_i hv'
        obtain ⟨h0, h1⟩ := hO
        rcases hh with ⟨_, hh⟩ | ⟨k, i, hh, hh'⟩
        · cases hh
        · obtain rfl := Option.some.inj hh'
          rcases hl with ⟨hl, _⟩ | ⟨_, _, _, hl⟩
          · refine fin A es.length c 0 hv'.toNat hv (run_bounds true _ _ _ _ _ _ (.inr ⟨k, hv', hh, h0, by omega, rfl⟩) (.inl ⟨hl, rfl⟩)) ?_
            simpa using cutd 0 hv'.toNat (by omega) (by omega)
          · cases hl
      · rename_i lv hv'
        obtain ⟨h0, h1, h2⟩ := hO
        rcases hh with ⟨_, hh⟩ | ⟨k, i, hh, hh'⟩
        · cases hh
        · obtain rfl := Option.some.inj hh'
          rcases hl with ⟨_, hl⟩ | ⟨k', i', hl, hl'⟩
          · cases hl
          · obtain rfl := Option.some.inj hl'
            exact fin A es.length c lv.toNat hv'.toNat hv (run_bounds true _ _ _ _ _ _ (.inr ⟨k, hv', hh, by omega, by omega, rfl⟩) (.inr ⟨k', lv, hl, h0, by omega, rfl⟩)) (cutd lv.toNat hv'.toNat (by omega) (by omega))
    · cases he
  · rename_i id n hd
    rw [hd] at hx
    obtain ⟨A, l, c, hm, hnl, hv⟩ := hx
    split at he <;> (try (cases he; done))
    · simp only [Option.some.injEq, Prod.mk.injEq] at he
      obtain ⟨rfl, rfl⟩ := he
      rcases hl with ⟨hl, _⟩ | ⟨_, _, _, hl⟩
      · rcases hh with ⟨hh, _⟩ | ⟨_, _, _, hh⟩
        · refine fin A n c 0 n hv (run_bounds true _ _ _ _ _ _ (.inl ⟨hh, rfl⟩) (.inl ⟨hl, rfl⟩)) ?_
          simp only [DV.rel]
          refine ⟨A, l, c, hm, hnl, ?_⟩
          cases A <;> simp [Addr.add]
        · cases hh
      · cases hl
    · rename_i hv' e' sz' es' hH
      simp only [Option.some.injEq, Prod.mk.injEq] at he
      obtain ⟨rfl, rfl⟩ := he
      obtain ⟨h0, h1⟩ := hO
      have hcap := row_cap (hs.heap.ob id _ hH) hm
      rcases hh with ⟨_, hh⟩ | ⟨k, i, hh, hh'⟩
      · cases hh
      · obtain rfl := Option.some.inj hh'
        rcases hl with ⟨hl, _⟩ | ⟨_, _, _, hl⟩
        · refine fin A n c 0 hv'.toNat hv (run_bounds true _ _ _ _ _ _ (.inr ⟨k, hv', hh, h0, by omega, rfl⟩) (.inl ⟨hl, rfl⟩)) ?_
          simp only [DV.rel]
          refine ⟨A, l, c, hm, by omega, ?_⟩
          cases A <;> simp [Addr.add]
        · cases hl
  · rename_i hd
    rw [hd] at hx
    simp only [DV.rel, PD.rel] at hx
    split at he <;> (try (cases he; done))
    simp only [Option.some.injEq, Prod.mk.injEq] at he
    obtain ⟨rfl, rfl⟩ := he
    rcases hl with ⟨hl, _⟩ | ⟨_, _, _, hl⟩
    · rcases hh with ⟨hh, _⟩ | ⟨_, _, _, hh⟩
      · exact fin none 0 0 0 0 hx (run_bounds true _ _ _ _ _ _ (.inl ⟨hh, rfl⟩) (.inl ⟨hl, rfl⟩)) (by simp [DV.rel, PD.rel])
      · cases hh
    · cases hl
  · rename_i id off n c hd
    rw [hd] at hx
    obtain ⟨b, hm, hv⟩ := hx
    split at he <;> (try (cases he; done))
    · simp only [Option.some.injEq, Prod.mk.injEq] at he
      obtain ⟨rfl, rfl⟩ := he
      rcases hl with ⟨hl, _⟩ | ⟨_, _, _, hl⟩
      · rcases hh with ⟨hh, _⟩ | ⟨_, _, _, hh⟩
        · refine fin _ n c 0 n hv (run_bounds true _ _ _ _ _ _ (.inl ⟨hh, rfl⟩) (.inl ⟨hl, rfl⟩)) ?_
          simp only [DV.rel]
          exact ⟨b, hm, by simp [Addr.add]⟩
        · cases hh
      · cases hl
    · rename_i hv'
      simp only [Option.some.injEq, Prod.mk.injEq] at he
      obtain ⟨rfl, rfl⟩ := he
      obtain ⟨h0, h1, h2⟩ := hO
      rcases hh with ⟨_, hh⟩ | ⟨k, i, hh, hh'⟩
      · cases hh
      · obtain rfl := Option.some.inj hh'
        rcases hl with ⟨hl, _⟩ | ⟨_, _, _, hl⟩
        · refine fin _ n c 0 hv'.toNat hv (run_bounds true _ _ _ _ _ _ (.inr ⟨k, hv', hh, h0, by omega, rfl⟩) (.inl ⟨hl, rfl⟩)) ?_
          simp only [DV.rel]
          exact ⟨b, hm, by simp [Addr.add]⟩
        · cases hl
  · cases he

/-- An array's cells as a slice. -/
def evCutArr (m esz : Nat) (x : DV) (lo hi : Option Int) : Option (DV × Prop) :=
  match x, lo, hi with
  | .ptr id off, none, none => some (.asl id off m m, True)
  | .ptr id off, none, some h => some (.asl id off h.toNat m, 0 ≤ h ∧ h ≤ m)
  | .ptr id off, some l, none => some (.asl id (off + l.toNat * esz) (m - l.toNat) (m - l.toNat), 0 ≤ l ∧ l < m)
  | _, _, _ => none
theorem cutArr_ok {o : Oper} {t : TypeId} {x : Operand} {lo hi : Option Operand} {rl rh : Option Int} {m esz : Nat} {d : DV} {O : Prop} (ho : o.op = .slice t x lo hi none) (ht : arrayOf P t = some (m, esz))
    (hlo : evB st.tmps lo = some rl) (hhi : evB st.tmps hi = some rh) (he : evCutArr m esz (evl st.tmps x) rl rh = some (d, O)) (hO : O) : ValOK P o st d := by
  intro X E a w hs
  have hx := evl_rel hs x
  obtain ⟨e, inf, hu, hinf, rfl⟩ := arrayOf_get ht
  have hl := evB_get hs hlo
  have hh := evB_get hs hhi
  have fin : ∀ b q l h, a.eval x = .pointer (some ⟨b, q, none⟩) → (Instr.sliceBounds false m m (lo.map a.eval) (hi.map a.eval) none).run P w = .ok (l, h, m) w →
      d.rel E w (.slice (some (if m = l then ⟨b, q, none⟩ else ⟨b, q + l * inf.size, none⟩)) (h - l) (m - l)) → ∃ v, (execOp a.eval o).run P w = .ok (.value v) w ∧ d.rel E w v := fun b q l h hv hb hd =>
    ⟨_, exec_of (s := Instr.sliceAt t (a.eval x) (lo.map a.eval) (hi.map a.eval) none) (by simp [execOp, ho]) (by rw [hv]; exact run_sliceArr hu hinf b q _ _ l h hb), hd⟩
  unfold evCutArr at he
  split at he
  · rename_i id off hd
    rw [hd] at hx
    obtain ⟨b, hm, hv⟩ := hx
    simp only [Option.some.injEq, Prod.mk.injEq] at he
    obtain ⟨rfl, rfl⟩ := he
    rcases hl with ⟨hl, _⟩ | ⟨_, _, _, hl⟩
    · rcases hh with ⟨hh, _⟩ | ⟨_, _, _, hh⟩
      · refine fin b off 0 m hv (run_bounds false _ _ _ _ _ _ (.inl ⟨hh, rfl⟩) (.inl ⟨hl, rfl⟩)) ?_
        simp only [DV.rel]
        exact ⟨b, hm, by simp⟩
      · cases hh
    · cases hl
  · rename_i id off hv' hd
    rw [hd] at hx
    obtain ⟨b, hm, hv⟩ := hx
    simp only [Option.some.injEq, Prod.mk.injEq] at he
    obtain ⟨rfl, rfl⟩ := he
    obtain ⟨h0, h1⟩ := hO
    rcases hh with ⟨_, hh⟩ | ⟨k, i, hh, hh'⟩
    · cases hh
    · obtain rfl := Option.some.inj hh'
      rcases hl with ⟨hl, _⟩ | ⟨_, _, _, hl⟩
      · refine fin b off 0 hv'.toNat hv (run_bounds false _ _ _ _ _ _ (.inr ⟨k, hv', hh, h0, by omega, rfl⟩) (.inl ⟨hl, rfl⟩)) ?_
        simp only [DV.rel]
        exact ⟨b, hm, by simp⟩
      · cases hl
  · rename_i id off lv hd
    rw [hd] at hx
    obtain ⟨b, hm, hv⟩ := hx
    simp only [Option.some.injEq, Prod.mk.injEq] at he
    obtain ⟨rfl, rfl⟩ := he
    obtain ⟨h0, h1⟩ := hO
    rcases hl with ⟨_, hl⟩ | ⟨k, i, hl, hl'⟩
    · cases hl
    · obtain rfl := Option.some.inj hl'
      rcases hh with ⟨hh, _⟩ | ⟨_, _, _, hh⟩
      · refine fin b off lv.toNat m hv (run_bounds false _ _ _ _ _ _ (.inl ⟨hh, rfl⟩) (.inr ⟨k, lv, hl, h0, by omega, rfl⟩)) ?_
        simp only [DV.rel]
        exact ⟨b, hm, by rw [if_neg (by omega)]⟩
      · cases hh
  · cases he
def strTy (P : Program) (t : TypeId) : Bool := match P.underlying t with | some .string => true | _ => false
theorem strTy_get {t : TypeId} (h : strTy P t = true) : P.underlying t = some .string := by
  unfold strTy at h
  split at h
  · assumption
  · cases h
def evCutStr (x : DV) (lo hi : Option Int) : Option (DV × Prop) :=
  match x with
  | .pd (.str s) => match lo, hi with
    | none, none => some (.pd (.str (s.extract 0 s.size)), True)
    | none, some h => some (.pd (.str (s.extract 0 h.toNat)), 0 ≤ h ∧ h ≤ s.size)
    | some l, none => some (.pd (.str (s.extract l.toNat s.size)), 0 ≤ l ∧ l ≤ s.size)
    | some l, some h => some (.pd (.str (s.extract l.toNat h.toNat)), 0 ≤ l ∧ l ≤ h ∧ h ≤ s.size)
  | _ => none
theorem cutStr_ok {o : Oper} {t : TypeId} {x : Operand} {lo hi : Option Operand} {rl rh : Option Int} {d : DV} {O : Prop} (ho : o.op = .slice t x lo hi none) (ht : strTy P t = true)
    (hlo : evB st.tmps lo = some rl) (hhi : evB st.tmps hi = some rh) (he : evCutStr (evl st.tmps x) rl rh = some (d, O)) (hO : O) : ValOK P o st d := by
  intro X E a w hs
  have hx := evl_rel hs x
  have hu := strTy_get ht
  have hl := evB_get hs hlo
  have hh := evB_get hs hhi
  unfold evCutStr at he
  split at he
  · rename_i s hd
    rw [hd] at hx
    simp only [DV.rel, PD.rel] at hx
    have fin : ∀ l h, (Instr.sliceBounds false s.size s.size (lo.map a.eval) (hi.map a.eval) none).run P w = .ok (l, h, s.size) w →
        d.rel E w (.string (s.extract l h)) → ∃ v, (execOp a.eval o).run P w = .ok (.value v) w ∧ d.rel E w v := fun l h hb hd =>
      ⟨_, exec_of (s := Instr.sliceAt t (a.eval x) (lo.map a.eval) (hi.map a.eval) none) (by simp [execOp, ho]) (by rw [hx]; exact run_sliceStr hu s _ _ l h hb), hd⟩
    split at he <;> simp only [Option.some.injEq, Prod.mk.injEq] at he <;> obtain ⟨rfl, rfl⟩ := he
    · rcases hl with ⟨hl, _⟩ | ⟨_, _, _, hl⟩
      · rcases hh with ⟨hh, _⟩ | ⟨_, _, _, hh⟩
        · exact fin 0 s.size (run_bounds false _ _ _ _ _ _ (.inl ⟨hh, rfl⟩) (.inl ⟨hl, rfl⟩)) (by simp only [DV.rel, PD.rel])
        · cases hh
      · cases hl
    · rename_i hv'
      rcases hh with ⟨_, hh⟩ | ⟨k, i, hh, hh'⟩
      · cases hh
      · obtain rfl := Option.some.inj hh'
        rcases hl with ⟨hl, _⟩ | ⟨_, _, _, hl⟩
        · exact fin 0 hv'.toNat (run_bounds false _ _ _ _ _ _ (.inr ⟨k, hv', hh, hO.1, hO.2, rfl⟩) (.inl ⟨hl, rfl⟩)) (by simp only [DV.rel, PD.rel])
        · cases hl
    · rename_i lv
      rcases hl with ⟨_, hl⟩ | ⟨k, i, hl, hl'⟩
      · cases hl
      · obtain rfl := Option.some.inj hl'
        rcases hh with ⟨hh, _⟩ | ⟨_, _, _, hh⟩
        · exact fin lv.toNat s.size (run_bounds false _ _ _ _ _ _ (.inl ⟨hh, rfl⟩) (.inr ⟨k, lv, hl, hO.1, hO.2, rfl⟩)) (by simp only [DV.rel, PD.rel])
        · cases hh
    · rename_i lv hv'
      obtain ⟨h0, h1, h2⟩ := hO
      rcases hh with ⟨_, hh⟩ | ⟨k, i, hh, hh'⟩
      · cases hh
      · obtain rfl := Option.some.inj hh'
        rcases hl with ⟨_, hl⟩ | ⟨k', i', hl, hl'⟩
        · cases hl
        · obtain rfl := Option.some.inj hl'
          exact fin lv.toNat hv'.toNat (run_bounds false _ _ _ _ _ _ (.inr ⟨k, hv', hh, by omega, by omega, rfl⟩) (.inr ⟨k', lv, hl, h0, by omega, rfl⟩)) (by simp only [DV.rel, PD.rel])
  · cases he
end
end Go.FI
