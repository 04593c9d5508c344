import Derived.Test.YtmfbkbjelikmoaaFi13
import Derived.Calls
namespace Go.FI
open Go.RowKit

/-! ### Calls -/
/-- What a call leaves of the world. -/
structure Frm (E E' : Env) (w w' : World) (H H' : List Ob) (scr : Nat → Bool) : Prop where
  os : w'.os = w.os
  tape : w'.tape = w.tape
  output : w'.output = w.output
  size : w.heap.size ≤ w'.heap.size
  kept : ∀ b, b < w.heap.size → (∀ (i : Nat) (x : Ob), H[i]? = some x → x.live = true → blk (E.mu i) ≠ some b) → w'.heap[b]? = w.heap[b]?
  mu : ∀ i, scr i = false → E'.mu i = E.mu i
  I : ∀ b, E.I b → E'.I b
  I' : ∀ b, E'.I b → E.I b ∨ w.heap.size ≤ b ∨ ∃ (i : Nat) (x : Ob), H[i]? = some x ∧ x.live = true ∧ blk (E.mu i) = some b
  own : ∀ (i : Nat) (x : Ob) (b : Nat), H'[i]? = some x → x.live = true → blk (E'.mu i) = some b → w.heap.size ≤ b ∨ ∃ (j : Nat) (y : Ob), H[j]? = some y ∧ y.live = true ∧ blk (E.mu j) = some b

/-- A function at arguments and objects: what it returns, and the objects behind it. -/
def CallOK (P : Program) (f : FuncId) (args : List DV) (H : List Ob) (res : DV) (H' : List Ob) (scr : Nat → Bool) : Prop :=
  ∀ (E : Env) (w : World) (vs : Array Value), HeapRel E w H → drelL E w args vs.toList →
    Calls P f vs w fun e w' => ∃ v E', e = .returned v ∧ res.rel E' w' v ∧ HeapRel E' w' H' ∧ Frm E E' w w' H H' scr

/-- A function of data alone. -/
def CallP (P : Program) (f : FuncId) (args : List PD) (res : PD) : Prop :=
  ∀ (I : Nat → Prop) (w : World) (vs : Array Value), (∀ b, I b → b < w.heap.size) → relL I w args vs.toList →
    Calls P f vs w fun e w' => ∃ v I', e = .returned v ∧ res.rel I' w' v ∧ Below w.heap.size w w' ∧ (∀ b, I b → I' b) ∧ (∀ b, I' b → I b ∨ w.heap.size ≤ b) ∧ ∀ b, I' b → b < w'.heap.size

theorem relL_drelL {E : Env} {w : World} {ps : List PD} {vs : List Value} : drelL E w (ps.map DV.pd) vs ↔ relL E.I w ps vs := drelL_pd

/-- Objects stay behind what is below. -/
theorem HeapRel.below {E : Env} {w w' : World} {H : List Ob} {I' : Nat → Prop} (hH : HeapRel E w H) (hb : Below w.heap.size w w') (h1 : ∀ b, E.I b → I' b) (h2 : ∀ b, I' b → E.I b ∨ w.heap.size ≤ b) (h3 : ∀ b, I' b → b < w'.heap.size) :
    HeapRel { E with I := I' } w' H := by
  have hm : Moves E { E with I := I' } w w' (fun _ => false) := ⟨h1, fun b hI => hb.block b (hH.bnd b hI), fun _ _ => rfl⟩
  refine ⟨fun i o ho => ?_, hH.one, fun i x b hx hl hbb hI => ?_, h3⟩
  · have := Ob.rel_moves hm (i := i) rfl (fun b hl hbb => hb.block b (blk_lt (hH.ob i o ho) hl hbb)) (hH.ob i o ho)
    rwa [Ob.scrub_none] at this
  · rcases h2 b hI with h | h
    · exact hH.off i x b hx hl hbb h
    · have := blk_lt (hH.ob i x hx) hl hbb
      omega
theorem CallP.ok {P : Program} {f : FuncId} {args : List PD} {res : PD} (h : CallP P f args res) (H : List Ob) : CallOK P f (args.map DV.pd) H (.pd res) H (fun _ => false) := by
  intro E w vs hH hargs
  refine (h E.I w vs hH.bnd (relL_drelL.1 hargs)).mono ?_
  rintro e w' ⟨v, I', rfl, hr, hb, h1, h2, h3⟩
  refine ⟨v, { E with I := I' }, rfl, by simpa only [DV.rel] using hr, hH.below hb h1 h2 h3, ?_⟩
  refine ⟨hb.os, hb.tape, hb.output, hb.size, fun b hlt _ => hb.block b hlt, fun _ _ => rfl, h1, fun b hI => ?_, fun i x b hx hl hbb => .inr ⟨i, x, hx, hl, hbb⟩⟩
  rcases h2 b hI with h | h
  · exact .inl h
  · exact .inr (.inl h)

/-- A datum that leads to no memory. -/
def flat : PD → Bool
  | .iface _ _ | .ds _ _ => false
  | .agg cs | .tup cs => flatL cs
  | _ => true
  termination_by structural p => p
where flatL : List PD → Bool
  | [] => true
  | p :: ps => flat p && flatL ps
  termination_by structural ps => ps
mutual
theorem flat_rel {I I' : Nat → Prop} {w w' : World} : ∀ (p : PD) (v : Value), flat p = true → p.rel I w v → p.rel I' w' v
  | .int _ _, _, _, h | .bool _, _, _, h | .str _, _, _, h | .nilp, _, _, h | .nilm, _, _, h | .nili, _, _, h | .nilf, _, _, h | .nils, _, _, h | .fn _, _, _, h => by simpa [PD.rel] using h
  | .iface _ _, _, hf, _ => by simp [flat] at hf
  | .ds _ _, _, hf, _ => by simp [flat] at hf
  | .agg cs, v, hf, h => by
    simp only [PD.rel, flat] at h hf ⊢
    obtain ⟨vs, e, hx⟩ := h
    exact ⟨vs, e, flatL_rel cs _ hf hx⟩
  | .tup cs, v, hf, h => by
    simp only [PD.rel, flat] at h hf ⊢
    obtain ⟨vs, e, hx⟩ := h
    exact ⟨vs, e, flatL_rel cs _ hf hx⟩
theorem flatL_rel {I I' : Nat → Prop} {w w' : World} : ∀ (ps : List PD) (vs : List Value), flat.flatL ps = true → relL I w ps vs → relL I' w' ps vs
  | [], _, _, h => by simpa [relL] using h
  | p :: ps, vs, hf, h => by
    simp only [flat.flatL, Bool.and_eq_true] at hf
    simp only [relL] at h ⊢
    obtain ⟨v, vs', e, hv, hx⟩ := h
    exact ⟨v, vs', e, flat_rel p v hf.1 hv, flatL_rel ps vs' hf.2 hx⟩
end

/-- What a slot is as data, for as long as nobody writes. -/
def snap (H : List Ob) (d : DV) : Option PD :=
  match d with
  | .pd p => some p
  | .sl id n => match H[id]? with
    | some (.row _ sz es) => match sz with
      | 0 => none
      | sz + 1 => some (.ds (sz + 1) (es.take n))
    | _ => none
  | .asl id off n c => match H[id]? with
    | some (.cells _ cs) => match pdL ((cs.drop off).take n), Nat.ble n c with
      | some ps, true => match onesP ps, ps.length == n with
        | true, true => some (.ds 1 (ps.map fun p => [p]))
        | _, _ => none
      | _, _ => none
    | _ => none
  | _ => none
def snapL (H : List Ob) : List DV → Option (List PD)
  | [] => some []
  | d :: ds => match snap H d, snapL H ds with
    | some p, some ps => some (p :: ps)
    | _, _ => none
def owned (E : Env) (H : List Ob) (b : Nat) : Prop := ∃ (i : Nat) (x : Ob), H[i]? = some x ∧ x.live = true ∧ blk (E.mu i) = some b
theorem snap_rel {E : Env} {w : World} {H : List Ob} (hH : HeapRel E w H) {d : DV} {p : PD} {v : Value} (h : snap H d = some p) (hd : d.rel E w v) : p.rel (fun b => E.I b ∨ owned E H b) w v := by
  have hk : Keep E.I w (fun b => E.I b ∨ owned E H b) w := fun b hb => ⟨.inl hb, rfl⟩
  unfold snap at h
  split at h
  · obtain rfl := Option.some.inj h
    exact PD.rel_keep hk _ _ (by simpa only [DV.rel] using hd)
  · rename_i id n
    split at h
    · rename_i e sz es hob
      split at h
      · cases h
      · rename_i k
        obtain rfl := Option.some.inj h
        obtain ⟨A, l, c, hm, hnl, rfl⟩ := hd
        have hr := hH.ob id _ hob
        have hl := row_len hr hm
        have hc := row_cap hr hm
        obtain ⟨xs, how, hxs, hlen, hone⟩ := hr
        rw [hm] at how
        simp only [PD.rel]
        have htl : (es.take n).length = n := by rw [List.length_take]; omega
        refine ⟨A, c, by rw [htl], by omega, fun x hx => hlen x (List.mem_of_mem_take hx), fun hne => ?_⟩
        have hn : 0 < n := by
          rcases Nat.eq_zero_or_pos n with h0 | h0
          · subst h0; simp at hne
          · exact h0
        rcases how.2 with ⟨h0, h0'⟩ | ⟨g, cap, cur, h0, _, hg, _⟩
        · injection h0; omega
        · injection h0 with h1
          subst h1
          refine ⟨g, 0, rfl, .inr ⟨id, _, hob, rfl, by rw [hm]; rfl⟩, ?_⟩
          rw [relRow_flat, take_flat hlen n (by omega)]
          have hxs' := relL_keep hk _ _ (relL_take (n * (k + 1)) hxs)
          refine relAt_of_cells hxs' (fun j u hj => ?_) (fun u hu => hone u (List.mem_of_mem_take hu))
          rw [List.getElem?_take] at hj
          split at hj
          · have := how.cells (g := g) rfl j u hj
            rwa [add_at] at this
          · cases hj
    · cases h
  · rename_i id off n c
    split at h
    · rename_i e cs hob
      split at h
      · rename_i ps hp hnc
        split at h
        · rename_i hone hn
          obtain rfl := Option.some.inj h
          obtain ⟨b, hm, rfl⟩ := hd
          obtain ⟨b', C, hm', hh, hcs⟩ := hH.ob id _ hob
          obtain rfl : b = b' := by rw [hm] at hm'; injection hm' with h; injection h with h; injection h
          have hr := relL_keep hk _ _ (pdL_rel hp (drelL_take n (drelL_drop off hcs)))
          have hn' : ps.length = n := by simpa using hn
          have hnc' := Nat.le_of_ble_eq_true hnc
          simp only [PD.rel]
          refine ⟨_, c, by rw [List.length_map, hn'], by rw [List.length_map, hn']; exact hnc', by simp, fun hne => ⟨b, off, rfl, .inr ⟨id, _, hob, rfl, by rw [hm]; rfl⟩, ?_⟩⟩
          rw [relRow_flat, flatten_singles]
          refine relAt_of_cells hr (fun j u hj => ?_) (onesP_rel hone hr)
          rw [cell_of_row w b _ C e (0, 0) hh]
          rw [List.getElem?_take] at hj
          split at hj
          · rw [List.getElem?_drop] at hj
            simpa using hj
          · cases hj
        · cases h
      · cases h
    · cases h
  · cases h
theorem snapL_rel {E : Env} {w : World} {H : List Ob} (hH : HeapRel E w H) : ∀ {ds : List DV} {ps : List PD} {vs : List Value}, snapL H ds = some ps → drelL E w ds vs → relL (fun b => E.I b ∨ owned E H b) w ps vs
  | [], ps, vs, h, hd => by obtain rfl := Option.some.inj h; simpa [drelL, relL] using hd
  | d :: ds, ps, vs, h, hd => by
    unfold snapL at h
    split at h
    · rename_i p qs hp hq
      obtain rfl := Option.some.inj h
      simp only [drelL] at hd
      obtain ⟨v, vs', rfl, hv, hx⟩ := hd
      simp only [relL]
      exact ⟨v, vs', rfl, snap_rel hH hp hv, snapL_rel hH hq hx⟩
    · cases h
theorem CallP.snap {P : Program} {f : FuncId} {args : List PD} {res : PD} (h : CallP P f args res) {ds : List DV} {H : List Ob} (hs : snapL H ds = some args) (hf : flat res = true) : CallOK P f ds H (.pd res) H (fun _ => false) := by
  intro E w vs hH hargs
  refine (h (fun b => E.I b ∨ owned E H b) w vs (fun b hb => ?_) (snapL_rel hH hs hargs)).mono ?_
  · rcases hb with hb | ⟨i, x, hx, hl, hbb⟩
    · exact hH.bnd b hb
    · exact blk_lt (hH.ob i x hx) hl hbb
  · rintro e w' ⟨v, I', rfl, hr, hb, h1, h2, h3⟩
    refine ⟨v, E, rfl, by simpa only [DV.rel] using flat_rel _ _ hf hr, ?_, ?_⟩
    · exact hH.below (I' := E.I) hb (fun _ h => h) (fun _ h => .inl h) (fun b hI => Nat.lt_of_lt_of_le (hH.bnd b hI) hb.size)
    · exact ⟨hb.os, hb.tape, hb.output, hb.size, fun b hlt _ => hb.block b hlt, fun _ _ => rfl, fun _ h => h, fun b hI => .inl hI, fun i x b hx hl hbb => .inr ⟨i, x, hx, hl, hbb⟩⟩

section
variable {P : Program} {X : Ctx} {E : Env} {st : St} {a : Act} {w : World}
def hasBody (P : Program) (f : FuncId) : Bool :=
  match P.funcs[f]? with
  | some fn => fn.body.isSome && !(fn.name == "runtime.NumGoroutine")
  | none => false
theorem run_callFunc {f : FuncId} (h : hasBody P f = true) (args : Array Value) (w : World) : (callFunc f args).run P w = .ok (.enter f args) w := by
  unfold hasBody at h
  split at h
  · rename_i fn hf
    simp only [Bool.and_eq_true, Bool.not_eq_true'] at h
    have h1 : fn.name ≠ "runtime.NumGoroutine" := by simpa using h.2
    obtain ⟨c, hc⟩ := Option.isSome_iff_exists.1 h.1
    simp [callFunc, hf, h1, hc]
  · cases h
/-- The function behind a value, and what it has captured. -/
def callee (d : DV) : Option (FuncId × List DV) :=
  match d with
  | .pd (.fn f) => some (f, [])
  | .clo f cs => some (f, cs)
  | _ => none
def scrubs (scr : List Nat) (ts : List DV) : List DV :=
  match scr with
  | [] => ts
  | scr => ts.map (scrub fun i => scr.contains i)
theorem scrubs_eq (scr : List Nat) (ts : List DV) : scrubs scr ts = ts.map (scrub fun i => scr.contains i) := by
  cases scr with
  | nil =>
    simp only [scrubs]
    have : (fun i : Nat => ([] : List Nat).contains i) = fun _ => false := by funext i; simp
    rw [this, scrubs_none]
  | cons x xs => rfl
def evCall (P : Program) (st : St) (f : DV) (args : List DV) (h : Hint) : Option (DV × St × Prop) :=
  match callee f, h with
  | some (k, caps), .call res H' scr => match hasBody P k, scr.all (fun i => !pinned st.pins i) with
    | true, true => some (res, ⟨scrubs scr st.tmps, H', st.pins⟩, CallOK P k (args ++ caps) st.heap res H' (fun i => scr.contains i))
    | _, _ => none
  | some (k, caps), .cp r => match hasBody P k, pdL (args ++ caps) with
    | true, some ps => some (.pd r, st, CallP P k ps r)
    | true, none => match snapL st.heap (args ++ caps), flat r with
      | some ps, true => some (.pd r, st, CallP P k ps r)
      | _, _ => none
    | false, _ => none
  | _, _ => none
theorem pdL_map : ∀ {ds : List DV} {ps : List PD}, pdL ds = some ps → ds = ps.map .pd
  | [], ps, h => by obtain rfl := Option.some.inj h; rfl
  | d :: ds, ps, h => by
    unfold pdL at h
    split at h
    · rename_i e
      cases e
    · rename_i p ds' e
      injection e with e1 e2
      subst e1 e2
      split at h
      · rename_i qs hq
        obtain rfl := Option.some.inj h
        rw [List.map_cons, ← pdL_map hq]
      · cases h
    · cases h
theorem StRel.frm {X : Ctx} {E E' : Env} {st : St} {a : Act} {w w' : World} {H' : List Ob} {scr : List Nat} (hs : StRel X E st a w) (fr : Frm E E' w w' st.heap H' (fun i => scr.contains i)) (hH' : HeapRel E' w' H') (hpin : scr.all (fun i => !pinned st.pins i) = true) :
    StRel X E' ⟨scrubs scr st.tmps, H', st.pins⟩ a w' := by
  have hm : Moves E E' w w' (fun i => scr.contains i) := ⟨fr.I, fun b hI => fr.kept b (hs.heap.bnd b hI) (fun i x hx hl hbb => hs.heap.off i x b hx hl hbb hI), fr.mu⟩
  refine ⟨by rw [scrubs_eq]; exact drelL_scrub hm hs.tmps, hs.defers.keep (fun D hD => hD.keep fr.kept fr.I' fr.own), hH', ?_, fun i hi => (fr.mu i ?_).trans (hs.pins i hi)⟩
  case refine_2 =>
    cases hc : scr.contains i with
    | false => rfl
    | true =>
      have := List.all_eq_true.1 hpin i (by simpa using hc)
      rw [hi] at this
      cases this
  have hown : ∀ b, (∃ (i : Nat) (x : Ob), st.heap[i]? = some x ∧ x.live = true ∧ blk (E.mu i) = some b) → X.own b := by
    rintro b ⟨i, x, hx, hl, hbb⟩
    exact hs.ctx.own i x b hx hl hbb
  refine ⟨fr.os.trans hs.ctx.os, fr.tape.trans hs.ctx.tape, fr.output.trans hs.ctx.output, Nat.le_trans hs.ctx.size fr.size, ?_, hs.ctx.new, ?_, ?_, fun b hI => fr.I b (hs.ctx.I b hI)⟩
  · intro b hlt hn
    rw [fr.kept b (Nat.lt_of_lt_of_le hlt hs.ctx.size) (fun i x hx hl hbb => hn (hown b ⟨i, x, hx, hl, hbb⟩))]
    exact hs.ctx.kept b hlt hn
  · intro b hI
    rcases fr.I' b hI with h | h | h
    · exact hs.ctx.I0 b h
    · exact .inr (hs.ctx.new b (Nat.le_trans hs.ctx.size h))
    · exact .inr (hown b h)
  · intro i x b hx hl hbb
    rcases fr.own i x b hx hl hbb with h | h
    · exact hs.ctx.new b (Nat.le_trans hs.ctx.size h)
    · exact hown b h
theorem enter_at {o : Oper} {f : Operand} {args : Array Operand} {ts : Array TypeId} {k : FuncId} {caps : List DV} (ho : o.op = .call { callee := .value f, args := args, argTypes := ts })
    (hc : callee (evl st.tmps f) = some (k, caps)) (hb : hasBody P k = true) (hs : StRel X E st a w) : ∃ vs : Array Value, (execOp a.eval o).run P w = .ok (.enter k vs) w ∧ drelL E w (evsl st.tmps args.toList ++ caps) vs.toList := by
  have hf := evl_rel hs f
  have hargs := evsl_rel hs args.toList
  have hfv : ∃ cv : Array Value, a.eval f = .func (.func k) #[] cv ∧ drelL E w caps cv.toList := by
    unfold callee at hc
    split at hc
    · rename_i f' hd
      rw [hd] at hf
      simp only [Option.some.injEq, Prod.mk.injEq] at hc
      obtain ⟨rfl, rfl⟩ := hc
      simp only [DV.rel, PD.rel] at hf
      exact ⟨#[], hf, by simp [drelL]⟩
    · rename_i f' cs hd
      rw [hd] at hf
      simp only [Option.some.injEq, Prod.mk.injEq] at hc
      obtain ⟨rfl, rfl⟩ := hc
      simp only [DV.rel] at hf
      exact hf
    · cases hc
  obtain ⟨cvs, hfv, hcv⟩ := hfv
  have hexec : (execOp a.eval o).run P w = .ok (.enter k (args.map a.eval ++ cvs)) w := by
    simp only [execOp, ho, resolve, hfv, Deferred.ofValue, Sem.run_bind, Sem.run_pure, Result.andThen_ok, invoke]
    simpa using run_callFunc hb (args.map a.eval ++ cvs) w
  exact ⟨_, hexec, by simpa using drelL_append hargs hcv⟩
/-- A call at a contract: objects as they were. -/
theorem call_at {o : Oper} {f : Operand} {args : Array Operand} {ts : Array TypeId} {k : FuncId} {caps : List DV} {d : DV} {st' : St} {H' : List Ob} {scr : List Nat} (ho : o.op = .call { callee := .value f, args := args, argTypes := ts })
    (hc : callee (evl st.tmps f) = some (k, caps)) (hb : hasBody P k = true) (hpin : scr.all (fun i => !pinned st.pins i) = true) (hst : st' = ⟨scrubs scr st.tmps, H', st.pins⟩)
    (hO : CallOK P k (evsl st.tmps args.toList ++ caps) st.heap d H' (fun i => scr.contains i)) : OpOK P o st d st' := by
  subst hst
  intro X E a w hs K Q hK
  obtain ⟨vs, hexec, hvs⟩ := enter_at ho hc hb hs
  have hcall := hO E w vs hs.heap hvs
  unfold Oper.wp
  rw [hexec, Oper.upon_enter]
  refine hcall.mono ?_
  rintro e w' ⟨v, E', rfl, hr, hH', fr⟩
  exact hK v E' w' hr (hs.frm fr hH' hpin)
theorem call_ok {o : Oper} {f : Operand} {args : Array Operand} {ts : Array TypeId} {h : Hint} {d : DV} {st' : St} {O : Prop} (ho : o.op = .call { callee := .value f, args := args, argTypes := ts })
    (he : evCall P st (evl st.tmps f) (evsl st.tmps args.toList) h = some (d, st', O)) (hO : O) : OpOK P o st d st' := by
  have none' : (fun i : Nat => ([] : List Nat).contains i) = fun _ => false := by funext i; simp
  unfold evCall at he
  split at he
  · rename_i k caps res H' scr hc
    split at he
    · rename_i hb hpin
      simp only [Option.some.injEq, Prod.mk.injEq] at he
      obtain ⟨rfl, rfl, rfl⟩ := he
      exact call_at ho hc hb hpin rfl hO
    · cases he
  · rename_i k caps r hc
    split at he
    · rename_i ps hb hp
      simp only [Option.some.injEq, Prod.mk.injEq] at he
      obtain ⟨rfl, rfl, rfl⟩ := he
      refine call_at (scr := []) ho hc hb rfl rfl ?_
      rw [none', pdL_map hp]
      exact hO.ok _
    · rename_i hb hp
      split at he
      · rename_i ps hsn hfl
        simp only [Option.some.injEq, Prod.mk.injEq] at he
        obtain ⟨rfl, rfl, rfl⟩ := he
        refine call_at (scr := []) ho hc hb rfl rfl ?_
        rw [none']
        exact hO.snap hsn hfl
      · cases he
    · cases he
  · cases he
end
end Go.FI
