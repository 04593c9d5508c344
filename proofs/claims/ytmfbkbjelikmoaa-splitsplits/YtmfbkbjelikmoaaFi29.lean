import Derived.Test.YtmfbkbjelikmoaaFi21
namespace Go.FI
open Go.RowKit

/-! ### Rounds, panics, deferred calls -/
/-- A round: how it ends, and the objects behind it. -/
def RoundE (P : Program) (H : List Ob) (id : Nat) (args : List DV) (en : Ending) (H' : List Ob) (scr : Nat → Bool) : Prop :=
  ∀ (E : Env) (w : World) (b : Nat) (l : Loop) (vs : Array Value), HeapRel E w H → E.mu id = .pointer (some ⟨b, 0, none⟩) → w.heap[b]? = some (.loop l) → l.fn < P.funcs.size → drelL E w args vs.toList → vs.size = l.params.size →
    RoundIn (FW none) 0 P b l.fn ((l.params.zip vs).foldl (fun tmps (t, a) => tmps.setIfInBounds t a) l.tmps) l.assign l.body w fun e w' => ∃ E', e = en ∧ HeapRel E' w' H' ∧ Frm E E' w w' H H' scr
/-- A function that panics. -/
def CallX (P : Program) (f : FuncId) (args : List DV) (H : List Ob) (chain : List PanicEntry) (H' : List Ob) (scr : Nat → Bool) : Prop :=
  ∀ (E : Env) (w : World) (vs : Array Value), HeapRel E w H → drelL E w args vs.toList →
    Calls P f vs w fun e w' => ∃ E', e = .panicked chain ∧ HeapRel E' w' H' ∧ Frm E E' w w' H H' scr
/-- A function of data alone that panics. -/
def CallPX (P : Program) (f : FuncId) (args : List PD) (chain : List PanicEntry) : Prop :=
  ∀ (I : Nat → Prop) (w : World) (vs : Array Value), (∀ b, I b → b < w.heap.size) → relL I w args vs.toList →
    Calls P f vs w fun e w' => e = .panicked chain ∧ Below w.heap.size w w'
section
variable {P : Program} {X : Ctx} {E : Env} {st : St} {a : Act} {w : World}
theorem HeapRel.below' {w' : World} {H : List Ob} (hH : HeapRel E w H) (hb : Below w.heap.size w w') : HeapRel E w' H ∧ Frm E E w w' H H (fun _ => false) :=
  ⟨hH.below (I' := E.I) hb (fun _ h => h) (fun _ h => .inl h) (fun c hI => Nat.lt_of_lt_of_le (hH.bnd c hI) hb.size),
    ⟨hb.os, hb.tape, hb.output, hb.size, fun c hlt _ => hb.block c hlt, fun _ _ => rfl, fun _ h => h, fun _ hI => .inl hI, fun i x _ hx hl hbb => .inr ⟨i, x, hx, hl, hbb⟩⟩⟩
theorem CallPX.ok {f : FuncId} {ds : List DV} {args : List PD} {chain : List PanicEntry} (h : CallPX P f args chain) {H : List Ob} (hs : snapL H ds = some args) : CallX P f ds H chain H (fun _ => false) := by
  intro E w vs hH hargs
  refine (h (fun b => E.I b ∨ owned E H b) w vs (fun b hb => ?_) (snapL_rel hH hs hargs)).mono ?_
  · rcases hb with hb | ⟨i, x, hx, hl, hbb⟩
    · exact hH.bnd b hb
    · exact blk_lt (hH.ob i x hx) hl hbb
  · rintro e w' ⟨rfl, hb⟩
    exact ⟨E, rfl, hH.below' hb⟩

/-- What stands for a value that leads to no memory. -/
def pval : PD → Option Value
  | .int k n => some (.int k n)
  | .bool b => some (.bool b)
  | .iface t p => match pval p with | some v => some (.iface t v) | none => none
  | _ => none
theorem pval_rel {I : Nat → Prop} : ∀ {p : PD} {v u : Value}, pval p = some v → p.rel I w u → u = v
  | .int _ _, _, _, h, hr => by simp only [pval, Option.some.injEq] at h; subst h; simpa only [PD.rel] using hr
  | .bool _, _, _, h, hr => by simp only [pval, Option.some.injEq] at h; subst h; simpa only [PD.rel] using hr
  | .iface t p, v, u, h, hr => by
    unfold pval at h
    split at h
    · rename_i v' hp
      obtain rfl := Option.some.inj h
      simp only [PD.rel] at hr
      obtain ⟨x, rfl, hx⟩ := hr
      rw [pval_rel hp hx]
    · cases h
def panicOf (d : DV) : Option (List PanicEntry) :=
  match d with
  | .pd (.iface t p) => match pval p with | some v => some [{ v := .iface t v, recovered := false }] | none => none
  | _ => none
theorem panic_at {o : Oper} {x : Operand} {ts : Array TypeId} {chain : List PanicEntry} {r : Option Nat} {K : Act → World → Prop} {Q : Exit → Act → World → Prop} (ho : o.op = .call { callee := .builtin .panic, args := #[x], argTypes := ts } ∨ o.op = .panic x)
    (hd : panicOf (evl st.tmps x) = some chain) (hs : StRel X E st a w) (hQ : Q (.panic chain) a w) : o.wpIn (FW r) 0 P a w K Q := by
  have hx := evl_rel hs x
  unfold panicOf at hd
  split at hd
  · rename_i t p hp
    rw [hp] at hx
    simp only [DV.rel, PD.rel] at hx
    split at hd
    · rename_i v hv
      obtain rfl := Option.some.inj hd
      obtain ⟨u, hu, hux⟩ := hx
      obtain rfl := pval_rel hv hux
      refine ⟨fun _ _ => trivial, ?_⟩
      have hexec : (execOp a.eval o).run P w = .halt (.panic (.iface t u)) w := by
        rcases ho with ho | ho
        · simp [execOp, ho, resolve, invoke, builtin, hu, Instr.panic, goPanic]
        · simp [execOp, ho, hu, Instr.panic, goPanic]
      rw [Oper.semAt_eq _ _ _ (by intro c hc; rcases ho with ho | ho <;> (rw [ho] at hc; cases hc)), hexec]
      exact hQ
    · cases hd
  · cases hd
/-- A call that panics. -/
theorem callx_at {o : Oper} {f : Operand} {args : Array Operand} {ts : Array TypeId} {k : FuncId} {caps : List DV} {chain : List PanicEntry} {H' : List Ob} {scr : List Nat} (ho : o.op = .call { callee := .value f, args := args, argTypes := ts })
    (hc : callee (evl st.tmps f) = some (k, caps)) (hb : hasBody P k = true) (hpin : scr.all (fun i => !pinned st.pins i) = true)
    (hO : CallX P k (evsl st.tmps args.toList ++ caps) st.heap chain H' (fun i => scr.contains i)) (hs : StRel X E st a w) {r : Option Nat} {K : Act → World → Prop} {Q : Exit → Act → World → Prop}
    (hQ : ∀ E' w', StRel X E' ⟨scrubs scr st.tmps, H', st.pins⟩ a w' → Q (.panic chain) a w') : o.wpIn (FW r) 0 P a w K Q := by
  obtain ⟨vs, hexec, hvs⟩ := enter_at ho hc hb hs
  refine ⟨fun _ _ => trivial, ?_⟩
  rw [Oper.semAt_eq _ _ _ (by intro c hc; rw [ho] at hc; cases hc), hexec, Oper.uponIn_enter]
  refine ⟨(fun hh => by cases hh), callsFW (callsIn_wide.2 ((hO E w vs hs.heap hvs).mono ?_))⟩
  rintro e w' ⟨E', rfl, hH', fr⟩
  exact hQ E' w' (hs.frm fr hH' hpin)
/-- A call of yield: a round. -/
theorem yield_at {o : Oper} {f : Operand} {args : Array Operand} {ts : Array TypeId} {id : Nat} {rc : Rec} {en : Ending} {H' : List Ob} {scr : List Nat} (ho : o.op = .call { callee := .value f, args := args, argTypes := ts })
    (hf : evl st.tmps f = .yld id) (hid : st.heap[id]? = some (.loop rc)) (hsz : rc.params.length = args.size) (hnf : rc.nf ≤ P.funcs.size) (hpin : scr.all (fun i => !pinned st.pins i) = true)
    (hO : RoundE P st.heap id (evsl st.tmps args.toList) en H' (fun i => scr.contains i)) (hs : StRel X E st a w) {rr : Option Nat} {K : Act → World → Prop} {Q : Exit → Act → World → Prop}
    (hK : ∀ E' w', StRel X E' ⟨scrubs scr st.tmps, H', st.pins⟩ a w' → match en with | .returned v => K (a.put o.dst v) w' | .panicked ch => Q (.panic ch) a w' | .outgrown => False) : o.wpIn (FW rr) 0 P a w K Q := by
  have hfv := evl_rel hs f
  rw [hf] at hfv
  obtain ⟨b, hm, hv⟩ := hfv
  have hargs := evsl_rel hs args.toList
  obtain ⟨b', l, hm', hl, _, _, _, h4, _, _, h7⟩ := hs.heap.ob id _ hid
  obtain rfl : b = b' := by rw [hm] at hm'; injection hm' with h; injection h with h; injection h
  have hps : (args.map a.eval).size = l.params.size := by
    have : l.params.toList.length = rc.params.length := by rw [h4]
    simp at this ⊢
    omega
  have hexec : (execOp a.eval o).run P w = .ok (.round b l.fn ((l.params.zip (args.map a.eval)).foldl (fun tmps (t, a) => tmps.setIfInBounds t a) l.tmps) l.assign l.body) w := by
    simp only [execOp, ho, resolve, hv, Deferred.ofValue, Sem.run_bind, Sem.run_pure, Result.andThen_ok, invoke]
    simpa using run_yield (P := P) hl hps
  refine ⟨fun _ _ => trivial, ?_⟩
  rw [Oper.semAt_eq _ _ _ (by intro c hc; rw [ho] at hc; cases hc), hexec, Oper.uponIn_round]
  refine ⟨(fun hh => by cases hh), ?_⟩
  have hround := hO E w b l (args.map a.eval) hs.heap hm hl (Nat.lt_of_lt_of_le h7 hnf) (by simpa using hargs) hps
  have hround' : RoundIn (FW rr) (0 - 1) P b l.fn ((l.params.zip (args.map a.eval)).foldl (fun tmps (t, a) => tmps.setIfInBounds t a) l.tmps) l.assign l.body w fun e w' => ∃ E', e = en ∧ HeapRel E' w' H' ∧ Frm E E' w w' st.heap H' (fun i => scr.contains i) := hround
  refine hround'.mono ?_
  rintro e w' ⟨E', rfl, hH', fr⟩
  have := hK E' w' (hs.frm fr hH' hpin)
  cases e with
  | returned v => exact this
  | panicked ch => exact this
  | outgrown => exact this.elim

/-- The ways to objects that do not move. -/
def ghArgs (ps : List Pin) : List DV → Option (List (Nat × Nat))
  | [] => some []
  | .ptr id off :: ds => match pinned ps id, ghArgs ps ds with
    | true, some r => some ((id, off) :: r)
    | _, _ => none
  | _ :: _ => none
theorem ghArgs_rel (hs : StRel X E st a w) : ∀ {ds : List DV} {vs : List Value} {g : List (Nat × Nat)}, ghArgs st.pins ds = some g → drelL E w ds vs → vs = g.map fun p => offV (X.mu0 p.1) p.2
  | [], vs, g, h, hd => by obtain rfl := Option.some.inj h; simpa [drelL] using hd
  | d :: ds, vs, g, h, hd => by
    unfold ghArgs at h
    split at h
    · rename_i e; cases e
    · rename_i id off ds' e
      injection e with e1 e2
      subst e1 e2
      split at h
      · rename_i r hp hr
        obtain rfl := Option.some.inj h
        simp only [drelL] at hd
        obtain ⟨v, vs', rfl, ⟨b, hm, hv⟩, hx⟩ := hd
        rw [List.map_cons, ghArgs_rel hs hr hx]
        congr 1
        rw [hv, ← hs.pins id hp, hm]
        rfl
      · cases h
    · cases h
theorem defer_at {o : Oper} {f : Operand} {args : Array Operand} {ts : Array TypeId} {k : FuncId} {g : List (Nat × Nat)} (ho : o.op = .defer { callee := .value f, args := args, argTypes := ts })
    (hf : evl st.tmps f = .pd (.fn k)) (hg : ghArgs st.pins (evsl st.tmps args.toList) = some g) (hs : StRel X E st a w) {K : Act → World → Prop} {Q : Exit → Act → World → Prop}
    (hK : ∀ a', a'.tmps = (a.put o.dst undef).tmps → StRel X E ⟨st.tmps, st.heap, .d ⟨k, g⟩ :: st.pins⟩ { a with defers := a'.defers } w → K a' w) : o.wpIn (FW none) 0 P a w K Q := by
  have hfv := evl_rel hs f
  rw [hf] at hfv
  simp only [DV.rel, PD.rel] at hfv
  have hargs := evsl_rel hs args.toList
  have hvs := ghArgs_rel hs hg hargs
  have hexec : (execOp a.eval o).run P w = .ok (.defer { target := .fn (.func k) #[], args := args.map a.eval }) w := by
    simp [execOp, ho, resolve, hfv, Deferred.ofValue]
  refine ⟨fun _ _ => trivial, ?_⟩
  rw [show Oper.semAt (FW none).round a.eval o = execOp a.eval o from rfl, hexec, Oper.uponIn_defer]
  refine hK _ (by cases o.dst <;> rfl) ?_
  have hd : ({ a with defers := { target := .fn (.func k) #[], args := args.map a.eval } :: a.defers }.put o.dst undef).defers = ghD X ⟨k, g⟩ :: a.defers := by
    have : (args.map a.eval) = (g.map fun p => offV (X.mu0 p.1) p.2).toArray := by
      rw [← hvs, ← Array.toList_map]
    rw [ghD, ← this]
    cases o.dst <;> rfl
  rw [hd]
  exact ⟨hs.tmps, .inr ⟨⟨k, g⟩, ghosts st.pins, rfl, rfl, hs.defers⟩, hs.heap, hs.ctx, hs.pins⟩
end
end Go.FI
