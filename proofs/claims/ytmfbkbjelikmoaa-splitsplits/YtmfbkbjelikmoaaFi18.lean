import Derived.Test.YtmfbkbjelikmoaaFi17
import Derived.Tactics
import Derived.RangeFuncRecord
namespace Go.FI
open Go.RowKit

/-! ### Results -/
def evRes1 (P : Program) (st : St) (r : ResultVar) : Option (DV × List Prop) :=
  match r with
  | .tmp t => some (st.tmps.getD t undefD, [])
  | .cell a t => match tyInfo P t, st.tmps.getD a undefD with
    | some (g, n), .ptr id off => match st.heap[id]? with
      | some (.cells _ cs) => match evCells g n cs off .n with
        | some (d, O) => some (d, [O])
        | none => none
      | _ => none
    | _, _ => none
def evRes (P : Program) (st : St) : List ResultVar → Option (List DV × List Prop)
  | [] => some ([], [])
  | r :: rs => match evRes1 P st r, evRes P st rs with
    | some (d, O), some (ds, Os) => some (d :: ds, O ++ Os)
    | _, _ => none
def res1 (tmps : Array Value) : ResultVar → Sem Value
  | .tmp t => pure (tmps.getD t undef)
  | .cell a t => do loadVar t (← asAddr (tmps.getD a undef))
section
variable {P : Program} {X : Ctx} {E : Env} {st : St} {a : Act} {w : World}
theorem evRes1_ok (hs : StRel X E st a w) {r : ResultVar} {d : DV} {Os : List Prop} (h : evRes1 P st r = some (d, Os)) (hO : All Os) : ∃ v, (res1 a.tmps r).run P w = .ok v w ∧ d.rel E w v := by
  unfold evRes1 at h
  split at h
  · rename_i t
    simp only [Option.some.injEq, Prod.mk.injEq] at h
    obtain ⟨rfl, rfl⟩ := h
    exact ⟨a.eval (.tmp t), by simp only [res1, Act.eval]; simp, evl_rel hs (.tmp t)⟩
  · rename_i p t
    split at h
    · rename_i g n id off ht hp
      split at h
      · rename_i e cs hH
        split at h
        · rename_i d' O' hev
          simp only [Option.some.injEq, Prod.mk.injEq] at h
          obtain ⟨rfl, rfl⟩ := h
          have hc := evl_rel hs (.tmp p)
          simp only [evl, hp] at hc
          obtain ⟨b, hm, hv⟩ := hc
          obtain ⟨b', C, hm', hh, hcs⟩ := hs.heap.ob id _ hH
          obtain rfl : b = b' := by rw [hm] at hm'; injection hm' with h; injection h with h; injection h
          obtain ⟨v, hr, hd⟩ := load_cells (P := P) ht hev hO.1 b 0 C.toList hcs (fun j v hj => by
            rw [Nat.zero_add, cell_of_row w b j C e (0, 0) hh]
            simpa using hj)
          refine ⟨v, ?_, hd⟩
          simp only [Act.eval] at hv
          simp only [res1, hv, asAddr, Sem.run_bind, Sem.run_pure, Result.andThen_ok]
          simpa using hr
        · cases h
      · cases h
    · cases h
theorem evRes_ok (hs : StRel X E st a w) : ∀ {rs : List ResultVar} {ds : List DV} {Os : List Prop}, evRes P st rs = some (ds, Os) → All Os → ∃ vs, (rs.mapM (res1 a.tmps)).run P w = .ok vs w ∧ drelL E w ds vs
  | [], ds, Os, h, hO => by
    simp only [evRes, Option.some.injEq, Prod.mk.injEq] at h
    obtain ⟨rfl, rfl⟩ := h
    exact ⟨[], by simp, by simp [drelL]⟩
  | r :: rs, ds, Os, h, hO => by
    unfold evRes at h
    split at h
    · rename_i d O1 ds' O2 h1 h2
      simp only [Option.some.injEq, Prod.mk.injEq] at h
      obtain ⟨rfl, rfl⟩ := h
      obtain ⟨hO1, hO2⟩ := All_append hO
      obtain ⟨v, hr, hd⟩ := evRes1_ok hs h1 hO1
      obtain ⟨vs, hr', hd'⟩ := evRes_ok hs h2 hO2
      refine ⟨v :: vs, ?_, ?_⟩
      · rw [List.mapM_cons]
        simp only [Sem.run_bind, hr, hr', Sem.run_pure, Result.andThen_ok]
      · simp only [drelL]
        exact ⟨v, vs, rfl, hd, hd'⟩
    · cases h
def oneOr (ds : List DV) : DV :=
  match ds with
  | [d] => d
  | ds => .tup ds
theorem results_ok (hs : StRel X E st a w) {fn : Func} {ds : List DV} {Os : List Prop} (h : evRes P st fn.results.toList = some (ds, Os)) (hO : All Os) : ∃ v, (results fn a.tmps).run P w = .ok v w ∧ (oneOr ds).rel E w v := by
  obtain ⟨vs, hr, hd⟩ := evRes_ok hs h hO
  have hm : (fn.results.mapM (res1 a.tmps)).run P w = .ok vs.toArray w := by
    rw [Array.mapM_eq_mapM_toList, Sem.run_map, hr]
    rfl
  refine ⟨if h : vs.toArray.size = 1 then vs.toArray[0] else .tuple vs.toArray, ?_, ?_⟩
  · have : results fn a.tmps = (do let vs ← fn.results.mapM (res1 a.tmps); pure (if h : vs.size = 1 then vs[0] else .tuple vs)) := by
      unfold results
      congr 1
    rw [this, Sem.run_bind, hm]
    simp only [Result.andThen_ok, Sem.run_pure]
  · have hl := drelL_length hd
    unfold oneOr
    split
    · rename_i d
      simp only [drelL] at hd
      obtain ⟨v, vs', rfl, hv, rfl⟩ := hd
      simpa using hv
    · rename_i hne
      have : ¬ vs.length = 1 := by
        intro h1
        rw [h1] at hl
        match ds, hl with
        | [d], _ => exact hne d rfl
      simp only [List.size_toArray, dif_neg this, DV.rel]
      exact ⟨_, rfl, by simpa using hd⟩
end

/-! ### Leaving a function, marks and all -/
theorem Marks.take {X : Ctx} {E : Env} {w : World} {H : List Ob} {D : Nat} {l : List Deferred} {gs : List Gh} (hm : MarkOK X E w H D) (hn : markOf D ∉ l) (h : Marks X E w H gs l) : Marks X E (w.putObj D (.deferred none)) H gs l := by
  induction l generalizing gs with
  | nil => exact h
  | cons d l ih =>
    rcases h with ⟨⟨D', hd, h'⟩, hn', hl⟩ | ⟨g, gs', e, hd, hl⟩
    · have hne : D' ≠ D := by
        rintro rfl
        exact hn (by rw [hd]; simp)
      exact .inl ⟨⟨D', hd, ⟨(World.putObj_heap_other hne).trans h'.here, h'.own, h'.off, h'.free⟩⟩, hn', ih (fun hh => hn (List.mem_cons_of_mem _ hh)) hl⟩
    · exact .inr ⟨g, gs', e, hd, ih (fun hh => hn (List.mem_cons_of_mem _ hh)) hl⟩
theorem StRel.take {X : Ctx} {E : Env} {st : St} {a : Act} {w : World} {D : Nat} {ds : List Deferred} (hs : StRel X E st a w) (hd : a.defers = markOf D :: ds) : MarkOK X E w st.heap D ∧ StRel X E st { a with defers := ds } (w.putObj D (.deferred none)) := by
  have hdf := hs.defers
  rw [hd] at hdf
  rcases hdf with ⟨⟨D', hD', hm⟩, hn, hl⟩ | ⟨g, gs', _, hD', _⟩
  case inr => have := congrArg Deferred.target hD'; simp [markOf, ghD] at this
  obtain rfl : D = D' := by
    have : (markOf D).target = (markOf D').target := by rw [hD']
    simpa [markOf] using this
  have hk : ∀ b, b ≠ D → (w.putObj D (.deferred none)).heap[b]? = w.heap[b]? := fun b hb => World.putObj_heap_other hb
  have hmv : Moves E E w (w.putObj D (.deferred none)) (fun _ => false) := ⟨fun _ h => h, fun b hI => hk b (fun e => hm.off (e ▸ hI)), fun _ _ => rfl⟩
  refine ⟨hm, ⟨by simpa only [scrubs_none] using drelL_scrub hmv hs.tmps, Marks.take hm hn hl, ⟨fun i o ho => ?_, hs.heap.one, hs.heap.off, fun b hI => by rw [World.putObj_size]; exact hs.heap.bnd b hI⟩,
    ⟨hs.ctx.os, hs.ctx.tape, hs.ctx.output, by rw [World.putObj_size]; exact hs.ctx.size, fun b hb ho => (hk b (fun e => ho (e ▸ hm.own))).trans (hs.ctx.kept b hb ho), hs.ctx.new, hs.ctx.I0, hs.ctx.own, hs.ctx.I⟩, hs.pins⟩⟩
  have := Ob.rel_moves hmv (i := i) rfl (fun b hl hb => hk b (fun e => hm.free i o ho hl (e ▸ hb))) (hs.heap.ob i o ho)
  rwa [Ob.scrub_none] at this
/-- A deferred call, carried out in a mode. -/
def CallDef (P : Program) (g : Gh) (H : List Ob) (u : FrameMode) (H' : List Ob) (u' : FrameMode) : Prop :=
  ∀ (E : Env) (w : World) (vs : Array Value), HeapRel E w H → vs.toList = (g.args.map fun p => offV (E.mu p.1) p.2) →
    CallsDIn (FW none) 0 P g.f vs u w fun e u2 w' => ∃ v E', e = .returned v ∧ u2 = u' ∧ HeapRel E' w' H' ∧ Frm E E' w w' H H' (fun _ => false)
/-- What is left of a state when a function's deferred calls are carried out. -/
inductive Ends (P : Program) : St → FrameMode → St → FrameMode → Prop
  | done {st : St} {u : FrameMode} (hg : ghosts st.pins = []) : Ends P st u st u
  | call {ts : List DV} {H H' : List Ob} {ps : List Pin} {g : Gh} {u u1 u2 uE : FrameMode} {stE : St} (hb : hasBody P g.f = true) (hp : g.args.all (fun p => pinned ps p.1) = true) (hu : u ≠ .run) (hD : CallDef P g H u H' u1) (hs : settle u1 = u2)
      (h : Ends P ⟨ts, H', ps⟩ u2 stE uE) : Ends P ⟨ts, H, .d g :: ps⟩ u stE uE
section
variable {P : Program} {X : Ctx} {fn : Func} {R : Ending → World → Prop}
theorem leaves_gen {E : Env} {st : St} {u : FrameMode} (hu : u ≠ .run) (hK : ∀ (a : Act) (w : World), StRel X E st a w → (∀ D l, a.defers ≠ markOf D :: l) → LeavesInM (FW none) 0 P fn a.tmps R a.defers u w) : ∀ (ds : List Deferred) (a : Act) (w : World), a.defers = ds → StRel X E st a w → LeavesInM (FW none) 0 P fn a.tmps R ds u w
  | [], a, w, hd, hs => by
    have := hK a w hs (fun D l h => by rw [hd] at h; cases h)
    rwa [hd] at this
  | d :: ds, a, w, hd, hs => by
    by_cases hm : ∃ D, d = markOf D
    · obtain ⟨D, rfl⟩ := hm
      obtain ⟨hm, hs'⟩ := hs.take hd
      have := leaves_gen hu hK ds { a with defers := ds } _ rfl hs'
      exact ⟨hu, .inl ⟨D, _, rfl, run_takeDeferred hm.here, this⟩⟩
    · have := hK a w hs (fun D l h => by rw [hd] at h; injection h with h; exact hm ⟨D, h⟩)
      rwa [hd] at this
/-- What is asked of the last state. -/
def endR (P : Program) (fn : Func) (R : Ending → World → Prop) (tmps : Array Value) (w : World) : FrameMode → Prop
  | .returning => ∃ v, (results fn tmps).run P w = .ok v w ∧ R (.returned v) w
  | .panicking ch => R (.panicked ch) w
  | .run => False
theorem leaves_of {st stE : St} {u uE : FrameMode} (he : Ends P st u stE uE) (hR : ∀ E a w, StRel X E stE a w → endR P fn R a.tmps w uE) : ∀ (E : Env) (a : Act) (w : World), StRel X E st a w → LeavesInM (FW none) 0 P fn a.tmps R a.defers u w := by
  induction he with
  | @done st u hg =>
    intro E a w hs
    cases u with
    | run => exact (hR E a w hs).elim
    | returning =>
      refine leaves_gen (by simp) (fun a w hs hm => ?_) a.defers a w rfl hs
      have hd := hs.defers
      rw [hg] at hd
      cases hds : a.defers with
      | nil => exact hR E a w hs
      | cons d l =>
        rw [hds] at hd
        rcases hd with ⟨⟨D, rfl, _⟩, _⟩ | ⟨g, gs', e, _⟩
        · exact absurd hds (hm D l)
        · cases e
    | panicking ch =>
      refine leaves_gen (by simp) (fun a w hs hm => ?_) a.defers a w rfl hs
      have hd := hs.defers
      rw [hg] at hd
      cases hds : a.defers with
      | nil => exact hR E a w hs
      | cons d l =>
        rw [hds] at hd
        rcases hd with ⟨⟨D, rfl, _⟩, _⟩ | ⟨g, gs', e, _⟩
        · exact absurd hds (hm D l)
        · cases e
  | @call ts H H' ps g u u1 u2 uE stE hb hp hu hD hst h ih =>
    intro E a w hs
    refine leaves_gen hu (fun a w hs hm => ?_) a.defers a w rfl hs
    have hd := hs.defers
    cases hds : a.defers with
    | nil =>
      rw [hds] at hd
      cases hd
    | cons d l =>
      rw [hds] at hd
      rcases hd with ⟨⟨D, rfl, _⟩, _⟩ | ⟨g', gs', e, rfl, hl⟩
      · exact absurd hds (hm D l)
      · simp only [ghosts, List.cons.injEq] at e
        obtain ⟨rfl, rfl⟩ := e
        have hargs : (ghD X g).args.toList = (g.args.map fun p => offV (E.mu p.1) p.2) := by
          simp only [ghD]
          refine List.map_congr_left fun p hpm => ?_
          rw [hs.pins p.1 (by simpa [pinned] using List.all_eq_true.1 hp p hpm)]
        refine ⟨hu, .inr ⟨(fun h => by cases h), .func g.f, #[], g.f, (ghD X g).args ++ #[], rfl, run_callFunc hb _ w, fun _ _ => trivial, ?_⟩⟩
        have hcall := hD E w ((ghD X g).args ++ #[]) hs.heap (by simpa using hargs)
        refine CallsDIn.mono (n := 0) hcall ?_
        rintro e u' w' ⟨v, E', rfl, rfl, hH', fr⟩
        have hs' : StRel X E' ⟨ts, H', ps⟩ { a with defers := l } w' := by
          have hm' : Moves E E' w w' (fun _ => false) := ⟨fr.I, fun b hI => fr.kept b (hs.heap.bnd b hI) (fun i x hx hl hbb => hs.heap.off i x b hx hl hbb hI), fr.mu⟩
          have hown : ∀ b, (∃ (i : Nat) (x : Ob), H[i]? = some x ∧ x.live = true ∧ blk (E.mu i) = some b) → X.own b := by
            rintro b ⟨i, x, hx, hl, hbb⟩
            exact hs.ctx.own i x b hx hl hbb
          refine ⟨?_, hl.keep (fun D hD => hD.keep fr.kept fr.I' fr.own), hH', ?_, fun i hi => (fr.mu i rfl).trans (hs.pins i hi)⟩
          · have := drelL_scrub hm' hs.tmps
            rwa [scrubs_none] at this
          · refine ⟨fr.os.trans hs.ctx.os, fr.tape.trans hs.ctx.tape, fr.output.trans hs.ctx.output, Nat.le_trans hs.ctx.size fr.size, ?_, hs.ctx.new, ?_, ?_, fun b hI => fr.I b (hs.ctx.I b hI)⟩
            · intro b hlt hn
              rw [fr.kept b (Nat.lt_of_lt_of_le hlt hs.ctx.size) (fun i x hx hl hbb => hn (hown b ⟨i, x, hx, hl, hbb⟩))]
              exact hs.ctx.kept b hlt hn
            · intro b hI
              rcases fr.I' b hI with h | h | h
              · exact hs.ctx.I0 b h
              · exact .inr (hs.ctx.new b (Nat.le_trans hs.ctx.size h))
              · exact .inr (hown b h)
            · intro i x b hx hl hbb
              rcases fr.own i x b hx hl hbb with h | h
              · exact hs.ctx.new b (Nat.le_trans hs.ctx.size h)
              · exact hown b h
        show LeavesInM (FW none) 0 P fn a.tmps R l (settle u') w'
        rw [hst]
        exact ih hR E' { a with defers := l } w' hs'
end
/-! ### A function, from its code -/
def isOut (ex : Exit) : Bool :=
  match ex with
  | .normal => true
  | .ret => true
  | _ => false
def modeOf (ex : Exit) : Option FrameMode :=
  match ex with
  | .normal => some .returning
  | .ret => some .returning
  | .panic ch => some (.panicking ch)
  | _ => none
def ntm (P : Program) (f : FuncId) : Nat := match P.funcs[f]? with | some fn => fn.ntmps | none => 0
def entry (P : Program) (f : FuncId) (args : List DV) (H : List Ob) (pins : List Pin) : St :=
  ⟨args ++ List.replicate (ntm P f - args.length) undefD, H, pins⟩
def fres (P : Program) (f : FuncId) : List ResultVar := match P.funcs[f]? with | some fn => fn.results.toList | none => []
def outS (n : Nat) (d : DV) : DV := scrub (fun i => n ≤ i) d
theorem replicate_undef (E : Env) (w : World) : ∀ n, drelL E w (List.replicate n undefD) (List.replicate n undef)
  | 0 => by simp [drelL]
  | n + 1 => by
    simp only [List.replicate_succ, drelL]
    exact ⟨_, _, rfl, undefD_rel E w, replicate_undef E w n⟩
/-- The context of a call. -/
abbrev ctx0 (E : Env) (w : World) (H : List Ob) : Ctx := ⟨w, fun b => w.heap.size ≤ b ∨ owned E H b, E.I, E.mu⟩
section
variable {P : Program}
theorem entry_rel {f : FuncId} {fn : Func} (hf : P.funcs[f]? = some fn) {E : Env} {w : World} {H : List Ob} {args : List DV} {vs : Array Value} {pins : List Pin} (hg : ghosts pins = []) (hH : HeapRel E w H) (ha : drelL E w args vs.toList) :
    StRel (ctx0 E w H) E (entry P f args H pins) { tmps := vs ++ Array.replicate (fn.ntmps - vs.size) undef, defers := [] } w := by
  refine ⟨?_, hg, hH, ⟨rfl, rfl, rfl, Nat.le_refl _, fun _ _ _ => rfl, fun b h => .inl h, fun b h => .inl h, fun i x b hx hl hb => .inr ⟨i, x, hx, hl, hb⟩, fun _ h => h⟩, fun _ _ => rfl⟩
  have hl := drelL_length ha
  simp only [entry, ntm, hf, Array.toList_append, Array.toList_replicate]
  refine drelL_append ha ?_
  have : args.length = vs.size := by simpa using hl.symm
  rw [this]
  exact replicate_undef E w _
theorem calls_fin {f : FuncId} {args : List DV} {H : List Ob} {pins : List Pin} {ex : Exit} {st' stE : St} {u uE : FrameMode} (h : Code0 P (fbody P f) (entry P f args H pins) ex st') (hb : hasBody P f = true) (hg : ghosts pins = []) (hx : modeOf ex = some u)
    (he : Ends P st' u stE uE) {E : Env} {w : World} {vs : Array Value} (hH : HeapRel E w H) (ha : drelL E w args vs.toList) {R : Ending → World → Prop}
    (hR : ∀ fn, P.funcs[f]? = some fn → ∀ E' a w', StRel (ctx0 E w H) E' stE a w' → endR P fn R a.tmps w' uE) : Calls P f vs w R := by
  unfold hasBody at hb
  split at hb
  case h_2 => cases hb
  rename_i fn hf
  simp only [Bool.and_eq_true, Option.isSome_iff_exists] at hb
  obtain ⟨⟨c, hc⟩, _⟩ := hb
  have hcode : fbody P f = c := by simp [fbody, hf, hc]
  rw [hcode] at h
  refine callsB_of hf hc (h.wp (r := none) (fun _ => rfl) (entry_rel hf hg hH ha) fun E' a0 w0 hs0 => ?_)
  have := leaves_of (fn := fn) (R := R) he (hR fn hf) E' a0 w0 hs0
  unfold modeOf at hx
  split at hx <;> first
    | (obtain rfl := Option.some.inj hx; exact this)
    | cases hx
end
/-- What stays behind a frame that had its caller's objects. -/
theorem frame_out {E E' : Env} {w w' : World} {H : List Ob} {st' : St} {a' : Act} {pins : List Pin} (n : Nat) (scr : List Nat) (hs : StRel ⟨w, fun b => w.heap.size ≤ b ∨ owned E H b, E.I, E.mu⟩ E' st' a' w') (hp : st'.pins = pins)
    (hscr : (List.range n).all (fun i => pinned pins i || scr.contains i) = true) :
    ∃ E1, (∀ d v, d.rel E' w' v → (outS n d).rel E1 w' v) ∧ HeapRel E1 w' ((st'.heap.take n).map (Ob.scrub fun i => n ≤ i)) ∧ Frm E E1 w w' H ((st'.heap.take n).map (Ob.scrub fun i => n ≤ i)) (fun i => scr.contains i) := by
  let E'' : Env := { mu := fun i => if i < n then E'.mu i else E.mu i, I := E'.I }
  have hm : Moves E' E'' w' w' (fun i => n ≤ i) := ⟨fun _ h => h, fun _ _ => rfl, fun i hi => by
    have : i < n := by simpa using hi
    simp [E'', this]⟩
  have hlt : ∀ i (x : Ob), ((st'.heap.take n).map (Ob.scrub fun i => n ≤ i))[i]? = some x → i < n ∧ ∃ y, st'.heap[i]? = some y ∧ x = y.scrub (fun i => n ≤ i) := by
    intro i x hx
    rw [List.getElem?_map, List.getElem?_take] at hx
    split at hx
    · rename_i hi
      cases hy : st'.heap[i]? with
      | none => rw [hy] at hx; cases hx
      | some y =>
        rw [hy] at hx
        exact ⟨hi, y, rfl, (Option.some.inj hx).symm⟩
    · cases hx
  have hmu : ∀ i, i < n → E''.mu i = E'.mu i := fun i hi => by simp [E'', hi]
  have key : ∃ E1, (∀ d v, d.rel E' w' v → (outS n d).rel E1 w' v) ∧ HeapRel E1 w' ((st'.heap.take n).map (Ob.scrub fun i => n ≤ i)) ∧ Frm E E1 w w' H ((st'.heap.take n).map (Ob.scrub fun i => n ≤ i)) (fun i => scr.contains i) := by
    refine ⟨E'', fun d v hd => scrub_moves hm _ _ hd, ⟨fun i x hx => ?_, fun i j x y b hx hy hxl hyl hxb hyb => ?_, fun i x b hx hxl hxb => ?_, hs.heap.bnd⟩, ?_⟩
    · obtain ⟨hi, y, hy, rfl⟩ := hlt i x hx
      exact Ob.rel_moves hm (by simpa using hi) (fun _ _ _ => rfl) (hs.heap.ob i y hy)
    · obtain ⟨hi, x', hx', rfl⟩ := hlt i x hx
      obtain ⟨hj, y', hy', rfl⟩ := hlt j y hy
      rw [Ob.scrub_live] at hxl hyl
      rw [hmu i hi] at hxb
      rw [hmu j hj] at hyb
      exact hs.heap.one i j x' y' b hx' hy' hxl hyl hxb hyb
    · obtain ⟨hi, x', hx', rfl⟩ := hlt i x hx
      rw [Ob.scrub_live] at hxl
      rw [hmu i hi] at hxb
      exact hs.heap.off i x' b hx' hxl hxb
    · refine ⟨hs.ctx.os, hs.ctx.tape, hs.ctx.output, hs.ctx.size, fun b hb hn => hs.ctx.kept b hb (fun ho => ?_), fun i hi => ?_, fun b hI => ?_, fun b hI => ?_, fun i x b hx hxl hxb => ?_⟩
      · rcases ho with ho | ⟨i, x, hx, hl, hbb⟩
        · omega
        · exact hn i x hx hl hbb
      · rcases Nat.lt_or_ge i n with hi' | hi'
        · rw [hmu i hi']
          have := List.all_eq_true.1 hscr i (List.mem_range.2 hi')
          rw [hi, Bool.or_false] at this
          exact hs.pins i (by rw [hp]; exact this)
        · simp [E'', Nat.not_lt.2 hi']
      · exact hs.ctx.I b hI
      · rcases hs.ctx.I0 b hI with h | h | h
        · exact .inl h
        · exact .inr (.inl h)
        · exact .inr (.inr h)
      · obtain ⟨hi, x', hx', rfl⟩ := hlt i x hx
        rw [Ob.scrub_live] at hxl
        rw [hmu i hi] at hxb
        exact hs.ctx.own i x' b hx' hxl hxb
  exact key
section
variable {P : Program}
/-- What a call of the function leaves: objects as they were, moved or not. -/
theorem call_of_code {f : FuncId} {args : List DV} {H : List Ob} {pins : List Pin} {ex : Exit} {st' stE : St} {u : FrameMode} {ds : List DV} {Os : List Prop} (n : Nat) (scr : List Nat)
    (h : Code0 P (fbody P f) (entry P f args H pins) ex st') (hb : hasBody P f = true) (hg : ghosts pins = []) (hx : modeOf ex = some u) (he : Ends P st' u stE .returning) (hp : stE.pins = pins) (hres : evRes P stE (fres P f) = some (ds, Os)) (hO : All Os)
    (hscr : (List.range n).all (fun i => pinned pins i || scr.contains i) = true) :
    CallOK P f args H (outS n (oneOr ds)) ((stE.heap.take n).map (Ob.scrub fun i => n ≤ i)) (fun i => scr.contains i) := by
  intro E w vs hH ha
  refine calls_fin h hb hg hx he hH ha fun fn hf E' a' w' hs => ?_
  have hr : fres P f = fn.results.toList := by simp [fres, hf]
  rw [hr] at hres
  obtain ⟨v, hrun, hd⟩ := results_ok hs hres hO
  obtain ⟨E1, h1, h2, h3⟩ := frame_out n scr hs hp hscr
  exact ⟨v, hrun, v, E1, rfl, h1 _ _ hd, h2, h3⟩
/-- A function that panics. -/
theorem callx_of_code {f : FuncId} {args : List DV} {H : List Ob} {pins : List Pin} {ex : Exit} {st' stE : St} {u : FrameMode} {ch : List PanicEntry} (n : Nat) (scr : List Nat)
    (h : Code0 P (fbody P f) (entry P f args H pins) ex st') (hb : hasBody P f = true) (hg : ghosts pins = []) (hx : modeOf ex = some u) (he : Ends P st' u stE (.panicking ch)) (hp : stE.pins = pins)
    (hscr : (List.range n).all (fun i => pinned pins i || scr.contains i) = true) :
    CallX P f args H ch ((stE.heap.take n).map (Ob.scrub fun i => n ≤ i)) (fun i => scr.contains i) := by
  intro E w vs hH ha
  refine calls_fin h hb hg hx he hH ha fun fn hf E' a' w' hs => ?_
  obtain ⟨E1, _, h2, h3⟩ := frame_out n scr hs hp hscr
  exact ⟨E1, rfl, h2, h3⟩
end
end Go.FI
