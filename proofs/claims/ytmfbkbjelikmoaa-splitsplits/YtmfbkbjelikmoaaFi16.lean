import Derived.Test.YtmfbkbjelikmoaaFi29
namespace Go.FI
open Go.RowKit

/-! ### Regions -/
inductive Post where
  | n
  | eq (d : DV)
  | pub
  | row (e : TypeId) (sz : Nat)
  | crow (off : Nat) (e : TypeId) (sz : Nat)
structure Ann where
  rid : Nat
  i : Nat
  h : Hint
  p : Post
def annAt : List Ann → Nat → Nat → Hint × Post
  | [], _, _ => (.n, .n)
  | ⟨r, j, h, p⟩ :: t, rid, i => match Nat.beq r rid, Nat.beq j i with
    | true, true => (h, p)
    | _, _ => annAt t rid i

def postV (p : Post) (d : DV) (st : St) : Res :=
  match p with
  | .n => some (d, st, [])
  | .eq d' => some (d', st, [d = d'])
  | .pub => match d with
    | .sl id n => match st.heap[id]? with
      | some (.row _ sz es) => match sz with
        | 0 => none
        | sz + 1 => some (.pd (.ds (sz + 1) es), ⟨st.tmps, putOb st.heap id .dead, st.pins⟩, [n = es.length])
      | _ => none
    | _ => none
  | .row e sz => match d, freeOb st st.heap.length with
    | .pd .nils, true => some (.sl st.heap.length 0, st.putO st.heap.length (.row e sz []), [])
    | _, _ => none
  | .crow off e sz => match d with
    | .ptr id o => match st.heap[id]?, freeOb st st.heap.length, (st.putO st.heap.length (.row e sz [])).heap[id]? with
      | some (.cells _ _), true, some (.cells t cs) => match cs[off]? with
        | some (.pd .nils) => some (.ptr id o, ⟨(st.putO st.heap.length (.row e sz [])).tmps, putOb (st.putO st.heap.length (.row e sz [])).heap id (.cells t (cs.set off (.sl st.heap.length 0))), st.pins⟩, [])
        | _ => none
      | _, _, _ => none
    | _ => none
section
variable {P : Program} {X : Ctx} {E : Env} {st : St} {a : Act} {w : World}
theorem HeapRel.kill {H : List Ob} (hH : HeapRel E w H) {id : Nat} {x : Ob} {I' : Nat → Prop} (hx : H[id]? = some x) (hl : x.live = true) (h1 : ∀ b, E.I b → I' b)
    (h2 : ∀ b, I' b → E.I b ∨ blk (E.mu id) = some b) : HeapRel { E with I := I' } w (putOb H id .dead) := by
  have hlt : id < H.length := (List.getElem?_eq_some_iff.1 hx).1
  have hg := fun i => putOb_get H id .dead i (Nat.le_of_lt hlt)
  have hm : Moves E { E with I := I' } w w (fun _ => false) := ⟨h1, fun _ _ => rfl, fun _ _ => rfl⟩
  have sub : ∀ i y, (putOb H id .dead)[i]? = some y → y.live = true → i ≠ id ∧ H[i]? = some y := by
    intro i y hy hl
    rw [hg] at hy
    split at hy
    · obtain rfl := Option.some.inj hy
      cases hl
    · exact ⟨by assumption, hy⟩
  refine ⟨fun i o ho => ?_, fun i j y z b hi hj hyl hzl hyb hzb => hH.one i j y z b (sub i y hi hyl).2 (sub j z hj hzl).2 hyl hzl hyb hzb, fun i y b hy hyl hyb hI => ?_, fun b hI => ?_⟩
  · rw [hg] at ho
    split at ho
    · obtain rfl := Option.some.inj ho
      simp only [Ob.rel]
    · have := Ob.rel_moves hm (i := i) rfl (fun _ _ _ => rfl) (hH.ob i o ho)
      rwa [Ob.scrub_none] at this
  · obtain ⟨hne, hy'⟩ := sub i y hy hyl
    rcases h2 b hI with h | h
    · exact hH.off i y b hy' hyl hyb h
    · exact hne (hH.one i id y x b hy' hx hyl hl hyb h)
  · rcases h2 b hI with h | h
    · exact hH.bnd b h
    · exact blk_lt (hH.ob id x hx) hl h
theorem StRel.kill (hs : StRel X E st a w) {id : Nat} {x : Ob} {I' : Nat → Prop} (hx : st.heap[id]? = some x) (hl : x.live = true) (h1 : ∀ b, E.I b → I' b)
    (h2 : ∀ b, I' b → E.I b ∨ blk (E.mu id) = some b) : StRel X { E with I := I' } ⟨st.tmps, putOb st.heap id .dead, st.pins⟩ a w := by
  have hm : Moves E { E with I := I' } w w (fun _ => false) := ⟨h1, fun _ _ => rfl, fun _ _ => rfl⟩
  have hlt : id < st.heap.length := (List.getElem?_eq_some_iff.1 hx).1
  refine ⟨by simpa only [scrubs_none] using drelL_scrub hm hs.tmps, hs.defers.keep (fun D hD => hD.keep (fun _ _ _ => rfl) (fun b hI => by
      rcases h2 b hI with h | h
      · exact .inl h
      · exact .inr (.inr ⟨id, x, hx, hl, h⟩)) (fun i y b hy hyl hyb => by
      rw [putOb_get _ _ _ _ (Nat.le_of_lt hlt)] at hy
      split at hy
      · obtain rfl := Option.some.inj hy
        cases hyl
      · exact .inr ⟨i, y, hy, hyl, hyb⟩)), hs.heap.kill hx hl h1 h2, ?_, hs.pins⟩
  refine ⟨hs.ctx.os, hs.ctx.tape, hs.ctx.output, hs.ctx.size, hs.ctx.kept, hs.ctx.new, fun b hI => ?_, fun i y b hy hyl hyb => ?_, fun b hI => h1 b (hs.ctx.I b hI)⟩
  · rcases h2 b hI with h | h
    · exact hs.ctx.I0 b h
    · exact .inr (hs.ctx.own id x b hx hl h)
  · rw [putOb_get _ _ _ _ (Nat.le_of_lt hlt)] at hy
    split at hy
    · obtain rfl := Option.some.inj hy
      cases hyl
    · exact hs.ctx.own i y b hy hyl hyb
theorem row_pd {H : List Ob} (hH : HeapRel E w H) {id sz : Nat} {e : TypeId} {es : List (List PD)} {I' : Nat → Prop} {v : Value} (hx : H[id]? = some (.row e (sz + 1) es)) (h1 : ∀ b, E.I b → I' b)
    (h2 : ∀ b, blk (E.mu id) = some b → I' b) (hd : (DV.sl id es.length).rel E w v) : (PD.ds (sz + 1) es).rel I' w v := by
  have hk : Keep E.I w I' w := fun b hb => ⟨h1 b hb, rfl⟩
  obtain ⟨A, l, c, hm, hnl, rfl⟩ := hd
  have hr := hH.ob id _ hx
  have hl := row_len hr hm
  have hc := row_cap hr hm
  obtain ⟨xs, how, hxs, hlen, hone⟩ := hr
  rw [hm] at how
  simp only [PD.rel]
  refine ⟨A, c, rfl, by omega, hlen, fun hne => ?_⟩
  have hn : 0 < es.length := List.length_pos_iff.2 hne
  rcases how.2 with ⟨h0, h0'⟩ | ⟨g, cap, cur, h0, _, hg, _⟩
  · omega
  · injection h0 with h1'
    subst h1'
    refine ⟨g, 0, rfl, h2 g (by rw [hm]; rfl), ?_⟩
    rw [relRow_flat]
    refine relAt_of_cells (relL_keep hk _ _ hxs) (fun j u hj => ?_) hone
    have := how.cells (g := g) rfl j u hj
    rwa [add_at] at this
theorem postV_ok {p : Post} {d d' : DV} {st' : St} {Os : List Prop} (h : postV p d st = some (d', st', Os)) (hO : All Os) (hs : StRel X E st a w) {v : Value} (hd : d.rel E w v) :
    ∃ E', d'.rel E' w v ∧ StRel X E' st' a w := by
  unfold postV at h
  split at h
  · simp only [Option.some.injEq, Prod.mk.injEq] at h
    obtain ⟨rfl, rfl, rfl⟩ := h
    exact ⟨E, hd, hs⟩
  · simp only [Option.some.injEq, Prod.mk.injEq] at h
    obtain ⟨rfl, rfl, rfl⟩ := h
    obtain ⟨rfl, _⟩ := hO
    exact ⟨E, hd, hs⟩
  · split at h
    · rename_i id n
      split at h
      · rename_i e sz es hob
        split at h
        · cases h
        · rename_i k
          simp only [Option.some.injEq, Prod.mk.injEq] at h
          obtain ⟨rfl, rfl, rfl⟩ := h
          obtain ⟨rfl, _⟩ := hO
          refine ⟨{ E with I := fun b => E.I b ∨ blk (E.mu id) = some b }, ?_, hs.kill hob rfl (fun _ h => .inl h) (fun _ h => h)⟩
          simp only [DV.rel]
          exact row_pd hs.heap hob (fun _ h => .inl h) (fun _ h => .inr h) hd
      · cases h
    · cases h
  · rename_i e sz
    split at h
    · rename_i hf
      simp only [Option.some.injEq, Prod.mk.injEq] at h
      obtain ⟨rfl, rfl, rfl⟩ := h
      simp only [DV.rel, PD.rel] at hd
      subst hd
      refine ⟨E.put st.heap.length (.slice none 0 0), ?_, hs.fresh hf (v := .slice none 0 0) ⟨rfl, rfl, rfl, Nat.le_refl _, fun _ _ _ => rfl⟩ ?_ (fun b hb => by cases hb)⟩
      · simp only [DV.rel]
        exact ⟨none, 0, 0, Env.put_same _ _ _, Nat.le_refl _, rfl⟩
      · refine ⟨[], ?_, by simp [relL], by simp, by simp⟩
        rw [Env.put_same]
        exact World.ownsRow_nil w 0 e sz
    · cases h

  · rename_i off e sz
    split at h
    · rename_i id o
      split at h
      · rename_i t0 cs0 t cs hob0 hf hob
        split at h
        · rename_i hnil
          simp only [Option.some.injEq, Prod.mk.injEq] at h
          obtain ⟨rfl, rfl, rfl⟩ := h
          have hlt : id < st.heap.length := (List.getElem?_eq_some_iff.1 hob0).1
          have hs1 := hs.fresh hf (w' := w) (v := .slice none 0 0) (ob := .row e sz []) ⟨rfl, rfl, rfl, Nat.le_refl _, fun _ _ _ => rfl⟩ (by
            refine ⟨[], ?_, by simp [relL], by simp, by simp⟩
            rw [Env.put_same]
            exact World.ownsRow_nil w 0 e sz) (fun b hb => by cases hb)
          refine ⟨E.put st.heap.length (.slice none 0 0), ?_, ?_⟩
          · obtain ⟨b, hm, hv⟩ := hd
            exact ⟨b, (Env.put_other _ _ (Nat.ne_of_lt hlt)).trans hm, hv⟩
          · obtain ⟨b, C, hm, hh, hcs⟩ := hs1.heap.ob id _ hob
            refine StRel.inplace (ts := (st.putO st.heap.length (.row e sz [])).tmps) (H := (st.putO st.heap.length (.row e sz [])).heap) (ps := st.pins) (w' := w) hs1 hob rfl ⟨rfl, rfl, rfl, Nat.le_refl _, fun _ _ _ => rfl⟩ ⟨b, C, hm, hh, ?_⟩
            obtain ⟨v0, hv0, hr0⟩ := drelL_get off _ hcs hnil
            have hset := drelL_set off (.sl st.heap.length 0) v0 hcs (by
              simp only [DV.rel, PD.rel] at hr0 ⊢
              exact ⟨none, 0, 0, Env.put_same _ _ _, Nat.le_refl _, hr0⟩)
            have hidem : C.toList.set off v0 = C.toList := by
              obtain ⟨hl, he⟩ := List.getElem?_eq_some_iff.1 hv0
              rw [← he]
              exact List.set_getElem_self hl
            rwa [hidem] at hset
        · cases h
      · cases h
    · cases h

def putT (dst : Option Tmp) (d : DV) (ts : List DV) : List DV := match dst with | some t => ts.set t d | none => ts
def evGuard (ops : List Oper) (g : Option (Nat × Bool)) (ts : List DV) : Option Bool :=
  match g with
  | none => some true
  | some (j, want) => match ops[j]? with
    | some o => match o.dst with
      | some t => match ts[t]? with
        | some (.pd (.bool true)) => some want
        | some (.pd (.bool false)) => some (!want)
        | some (.pd (.tup _)) => some false
        | _ => none
      | none => none
    | none => none
theorem evGuard_ok {ops : Array Oper} {o : Oper} {t : Bool} (hs : StRel X E st a w) (h : evGuard ops.toList o.guard st.tmps = some t) : Region.wanted o (yielded ops a.tmps) = t := by
  unfold evGuard at h
  unfold Region.wanted
  split at h
  · rename_i hg
    rw [hg]
    exact Option.some.inj h
  · rename_i j want hg
    rw [hg]
    simp only
    split at h
    · rename_i oj hj
      split at h
      · rename_i td htd
        have hy : ∀ d, st.tmps[td]? = some d → ∃ v, a.tmps[td]? = some v ∧ d.rel E w v := fun d hd => by
          obtain ⟨v, hv, hr⟩ := drelL_get td d hs.tmps hd
          exact ⟨v, by simpa using hv, hr⟩
        have hyj : yielded ops a.tmps j = match a.tmps[td]? with | some (.bool b) => some b | _ => none := by
          have hj' : ops[j]? = some oj := by simpa using hj
          unfold yielded
          rw [hj']
          simp only [Option.bind_some, htd]
          cases a.tmps[td]? with
          | none => rfl
          | some v => cases v <;> rfl
        rw [hyj]
        split at h
        · rename_i hd
          obtain ⟨v, hv, hr⟩ := hy _ hd
          simp only [DV.rel, PD.rel] at hr
          subst hr
          obtain rfl := Option.some.inj h
          rw [hv]
          cases want <;> rfl
        · rename_i hd
          obtain ⟨v, hv, hr⟩ := hy _ hd
          simp only [DV.rel, PD.rel] at hr
          subst hr
          obtain rfl := Option.some.inj h
          rw [hv]
          cases want <;> rfl
        · rename_i hd
          obtain ⟨v, hv, hr⟩ := hy _ hd
          simp only [DV.rel, PD.rel] at hr
          obtain ⟨cs, rfl, _⟩ := hr
          obtain rfl := Option.some.inj h
          rw [hv]
          rfl
        · cases h
      · cases h
    · cases h

theorem evOp_defer {o : Oper} {h : Hint} {d : DV} {st' : St} {O : List Prop} (he : evOp P st o.op h = some (d, st', O)) (c : Call) : o.op ≠ .defer c := by
  intro hc
  rw [hc] at he
  cases he
theorem Oper.toIn {r : Option Nat} {o : Oper} {K : Act → World → Prop} {Q : Exit → Act → World → Prop} (hd : ∀ c, o.op ≠ .defer c) (h : o.wp P a w K Q) : o.wpIn (FW r) 0 P a w K Q := by
  refine ⟨fun _ _ => trivial, ?_⟩
  rw [Oper.semAt_eq _ _ _ hd]
  unfold Oper.wp at h
  generalize (execOp a.eval o).run P w = res at *
  cases res with
  | ok n w' =>
    cases n <;> simp only [Oper.upon, Oper.uponIn] at h ⊢
    case enter f args => exact ⟨(fun hh => by cases hh), callsFW (callsIn_wide.2 h)⟩
    case row row args => exact ⟨(fun hh => by cases hh), fun c cs _ => let ⟨v, w', x, s⟩ := h c cs; ⟨v, w', x, stepsFW (stepsIn_wide.2 s)⟩⟩
    all_goals exact h
  | halt x w' => cases x <;> simp only [Oper.upon, Oper.uponIn] at h ⊢ <;> exact h
inductive Ex where
  | no
  | yes (ex : Exit) (st : St) (O : List Prop)
def exThen (x : Ex) (k : St → Ex) : Ex :=
  match x with
  | .no => .no
  | .yes .normal st O => match k st with
    | .no => .no
    | .yes ex st' O' => .yes ex st' (O ++ O')
  | .yes ex st O => .yes ex st O
theorem exThen_get {x : Ex} {k : St → Ex} {ex : Exit} {st' : St} {Os : List Prop} (h : exThen x k = .yes ex st' Os) :
    (∃ st1 O1 O2, x = .yes .normal st1 O1 ∧ k st1 = .yes ex st' O2 ∧ Os = O1 ++ O2) ∨ (x = .yes ex st' Os ∧ ex ≠ .normal) := by
  unfold exThen at h
  split at h
  · cases h
  · rename_i st1 O1
    split at h
    · cases h
    · rename_i ex' st2 O2 hk
      injection h with h1 h2 h3
      subst h1 h2 h3
      exact .inl ⟨st1, O1, O2, rfl, hk, rfl⟩
  · rename_i ex' st1 O1 hne
    injection h with h1 h2 h3
    subst h1 h2 h3
    exact .inr ⟨rfl, fun h => hne (by rw [h])⟩
def putS (dst : Option Tmp) (d : DV) (st : St) : St := ⟨putT dst d st.tmps, st.heap, st.pins⟩
/-- An operation that is carried out. fr: in a function's own frame. -/
def evRound (P : Program) (st : St) (dst : Option Tmp) (f : DV) (args : List DV) (n : Nat) (en : Ending) (H' : List Ob) (scr : List Nat) : Ex :=
  match f with
  | .yld id => match st.heap[id]? with
    | some (.loop rc) => match Nat.beq rc.params.length n, Nat.ble rc.nf P.funcs.size, scr.all (fun i => !pinned st.pins i) with
      | true, true, true => match en with
        | .returned (.bool t) => .yes .normal (putS dst (.pd (.bool t)) ⟨scrubs scr st.tmps, H', st.pins⟩) [RoundE P st.heap id args en H' (fun i => scr.contains i)]
        | .panicked ch => .yes (.panic ch) ⟨scrubs scr st.tmps, H', st.pins⟩ [RoundE P st.heap id args en H' (fun i => scr.contains i)]
        | _ => .no
      | _, _, _ => .no
    | _ => .no
  | _ => .no
def evCallX (P : Program) (st : St) (f : DV) (args : List DV) (h : Hint) : Ex :=
  match callee f, h with
  | some (k, caps), .cx ch H' scr => match hasBody P k, scr.all (fun i => !pinned st.pins i) with
    | true, true => .yes (.panic ch) ⟨scrubs scr st.tmps, H', st.pins⟩ [CallX P k (args ++ caps) st.heap ch H' (fun i => scr.contains i)]
    | _, _ => .no
  | some (k, caps), .px ch => match hasBody P k, snapL st.heap (args ++ caps) with
    | true, some ps => .yes (.panic ch) st [CallPX P k ps ch]
    | _, _ => .no
  | _, _ => .no
def evDefer (fr : Bool) (st : St) (dst : Option Tmp) (c : Call) : Ex :=
  match fr, c.callee with
  | true, .value f => match evl st.tmps f, ghArgs st.pins (evsl st.tmps c.args.toList) with
    | .pd (.fn k), some g => .yes .normal (putS dst undefD ⟨st.tmps, st.heap, .d ⟨k, g⟩ :: st.pins⟩) []
    | _, _ => .no
  | _, _ => .no
def evPlain (P : Program) (st : St) (o : Oper) (h : Hint) (p : Post) : Ex :=
  match evOp P st o.op h with
  | some (d, st1, O1) => match postV p d st1 with
    | some (d', st2, O2) => .yes .normal (putS o.dst d' st2) (O1 ++ O2)
    | none => .no
  | none => .no
def evPanic (st : St) (x : DV) : Ex :=
  match panicOf x with
  | some ch => .yes (.panic ch) st []
  | none => .no
def evAct (fr : Bool) (P : Program) (st : St) (o : Oper) (h : Hint) (p : Post) : Ex :=
  match o.op with
  | .panic x => evPanic st (evl st.tmps x)
  | .defer c => evDefer fr st o.dst c
  | .call c => match c.callee with
    | .builtin .panic => match c.args.toList with
      | [x] => evPanic st (evl st.tmps x)
      | _ => .no
    | .value f => match h with
      | .yl t H' scr => evRound P st o.dst (evl st.tmps f) (evsl st.tmps c.args.toList) c.args.size (.returned (.bool t)) H' scr
      | .yx ch H' scr => evRound P st o.dst (evl st.tmps f) (evsl st.tmps c.args.toList) c.args.size (.panicked ch) H' scr
      | .cx _ _ _ => evCallX P st (evl st.tmps f) (evsl st.tmps c.args.toList) h
      | .px _ => evCallX P st (evl st.tmps f) (evsl st.tmps c.args.toList) h
      | _ => evPlain P st o h p
    | _ => evPlain P st o h p
  | _ => evPlain P st o h p
def rOK (fr : Bool) (r : Option Nat) : Prop := fr = true → r = none
theorem StRel.putS (hs : StRel X E st a w) (dst : Option Tmp) {d : DV} {v : Value} (hv : d.rel E w v) : StRel X E (putS dst d st) (a.put dst v) w := by
  have := StRel.put (ts := st.tmps) (H := st.heap) (ps := st.pins) hs dst hv
  cases dst <;> exact this
section
variable {fr : Bool} {o : Oper} {r : Option Nat} {ex : Exit} {st' : St} {Os : List Prop} {K : Act → World → Prop} {Q : Exit → Act → World → Prop}
theorem yes3 {ex1 : Exit} {st1 : St} {O1 : List Prop} (h : Ex.yes ex1 st1 O1 = .yes ex st' Os) : ex1 = ex ∧ st1 = st' ∧ O1 = Os := by
  injection h with h1 h2 h3
  exact ⟨h1, h2, h3⟩
theorem evPlain_ok {h : Hint} {p : Post} (he : evPlain P st o h p = .yes ex st' Os) (hO : All Os) (hs : StRel X E st a w) (hK : ex = .normal → ∀ E' a' w', StRel X E' st' a' w' → K a' w') : o.wpIn (FW r) 0 P a w K Q := by
  unfold evPlain at he
  split at he
  · rename_i d st1 O1 hev
    split at he
    · rename_i d' st2 O2 hp
      obtain ⟨rfl, rfl, rfl⟩ := yes3 he
      obtain ⟨hO1, hO2⟩ := All_append hO
      refine Oper.toIn (evOp_defer hev) (evOp_ok hev hO1 X E a w hs K Q fun v E' w' hd hs' => ?_)
      obtain ⟨E'', hd', hs''⟩ := postV_ok hp hO2 hs' hd
      exact hK rfl E'' _ _ (hs''.putS o.dst hd')
    · cases he
  · cases he
theorem evPanic_ok {x : Operand} {ts : Array TypeId} (ho : o.op = .call { callee := .builtin .panic, args := #[x], argTypes := ts } ∨ o.op = .panic x) (he : evPanic st (evl st.tmps x) = .yes ex st' Os) (hs : StRel X E st a w)
    (hQ : ex ≠ .normal → ∀ E' a' w', StRel X E' st' a' w' → Q ex a' w') : o.wpIn (FW r) 0 P a w K Q := by
  unfold evPanic at he
  split at he
  · rename_i ch hp
    obtain ⟨rfl, rfl, rfl⟩ := yes3 he
    exact panic_at ho hp hs (hQ (by simp) E a w hs)
  · cases he
theorem evAct_ok {h : Hint} {p : Post} (he : evAct fr P st o h p = .yes ex st' Os) (hr : rOK fr r) (hO : All Os) (hs : StRel X E st a w)
    (hK : ex = .normal → ∀ E' a' w', StRel X E' st' a' w' → K a' w') (hQ : ex ≠ .normal → ∀ E' a' w', StRel X E' st' a' w' → Q ex a' w') : o.wpIn (FW r) 0 P a w K Q := by
  have round : ∀ {f : Operand} {args : Array Operand} {ts : Array TypeId} {en : Ending} {H' : List Ob} {scr : List Nat}, o.op = .call { callee := .value f, args := args, argTypes := ts } → evRound P st o.dst (evl st.tmps f) (evsl st.tmps args.toList) args.size en H' scr = .yes ex st' Os → o.wpIn (FW r) 0 P a w K Q := by
    intro f args ts en H' scr ho he
    unfold evRound at he
    split at he
    · rename_i id hf
      split at he
      · rename_i rc hid
        split at he
        · rename_i h1 h2 h3
          split at he
          · rename_i t
            obtain ⟨rfl, rfl, rfl⟩ := yes3 he
            exact yield_at ho hf hid (Nat.eq_of_beq_eq_true h1) (Nat.le_of_ble_eq_true h2) h3 hO.1 hs fun E' w' hs' => hK rfl E' _ _ (hs'.putS o.dst (by simp only [DV.rel, PD.rel]))
          · rename_i ch
            obtain ⟨rfl, rfl, rfl⟩ := yes3 he
            exact yield_at ho hf hid (Nat.eq_of_beq_eq_true h1) (Nat.le_of_ble_eq_true h2) h3 hO.1 hs fun E' w' hs' => hQ (by simp) E' _ _ hs'
          · cases he
        · cases he
      · cases he
    · cases he
  have callx : ∀ {f : Operand} {args : Array Operand} {ts : Array TypeId} {h : Hint}, o.op = .call { callee := .value f, args := args, argTypes := ts } → evCallX P st (evl st.tmps f) (evsl st.tmps args.toList) h = .yes ex st' Os → o.wpIn (FW r) 0 P a w K Q := by
    intro f args ts h ho he
    have none' : (fun i : Nat => ([] : List Nat).contains i) = fun _ => false := by funext i; simp
    unfold evCallX at he
    split at he
    · rename_i k caps ch H' scr hc
      split at he
      · rename_i hb hp
        obtain ⟨rfl, rfl, rfl⟩ := yes3 he
        exact callx_at ho hc hb hp hO.1 hs fun E' w' hs' => hQ (by simp) E' _ _ hs'
      · cases he
    · rename_i k caps ch hc
      split at he
      · rename_i ps hb hp
        obtain ⟨rfl, rfl, rfl⟩ := yes3 he
        refine callx_at (scr := []) ho hc hb rfl (by rw [none']; exact hO.1.ok hp) hs fun E' w' hs' => hQ (by simp) E' _ _ hs'
      · cases he
    · cases he
  unfold evAct at he
  split at he
  · rename_i x ho
    exact evPanic_ok (ts := #[]) (.inr ho) he hs hQ
  · rename_i c ho
    obtain ⟨ce, args, ts⟩ := c
    unfold evDefer at he
    split at he
    · rename_i f hce
      simp only at hce he
      subst hce
      obtain rfl : r = none := hr rfl
      split at he
      · rename_i k g hf hg
        obtain ⟨rfl, rfl, rfl⟩ := yes3 he
        refine defer_at ho hf hg hs fun a' ht hs' => hK rfl E a' w ?_
        have := hs'.putS o.dst (undefD_rel E w)
        have e : ({ a with defers := a'.defers }.put o.dst undef) = a' := by
          have h1 : ({ a with defers := a'.defers }.put o.dst undef).tmps = a'.tmps := by rw [ht]; cases o.dst <;> rfl
          have h2 : ({ a with defers := a'.defers }.put o.dst undef).defers = a'.defers := by cases o.dst <;> rfl
          cases hx : ({ a with defers := a'.defers }.put o.dst undef) with
          | mk t d =>
            rw [hx] at h1 h2
            simp only at h1 h2
            rw [h1, h2]
        rw [e] at this
        exact this
      · cases he
    · cases he
  · rename_i c ho
    obtain ⟨ce, args, ts⟩ := c
    simp only at he
    split at he
    · split at he
      · rename_i x hx
        have hargs : args = #[x] := by
          cases args; simp at hx; rw [hx]
        subst hargs
        exact evPanic_ok (.inl ho) he hs hQ
      · cases he
    · split at he
      · exact round ho he
      · exact round ho he
      · exact callx ho he
      · exact callx ho he
      · exact evPlain_ok he hO hs hK
    · exact evPlain_ok he hO hs hK
  · exact evPlain_ok he hO hs hK
end
/-- One operation of a region. -/
def evStep (fr : Bool) (P : Program) (L : List Ann) (rid : Nat) (ops : List Oper) (i : Nat) (st : St) : Ex :=
  match ops[i]? with
  | none => .yes .normal st []
  | some o => match evGuard ops o.guard st.tmps with
    | some true => match annAt L rid i with
      | (h, p) => evAct fr P st o h p
    | some false => .yes .normal (putS o.dst undefD st) []
    | none => .no
theorem evStep_ok {fr : Bool} {L : List Ann} {rid i : Nat} {ops : Array Oper} {ex : Exit} {st' : St} {Os : List Prop} (he : evStep fr P L rid ops.toList i st = .yes ex st' Os) {r : Option Nat} (hr : rOK fr r) (hO : All Os) (hs : StRel X E st a w)
    {K : Act → World → Prop} {Q : Exit → Act → World → Prop} (hK : ex = .normal → ∀ E' a' w', StRel X E' st' a' w' → K a' w') (hQ : ex ≠ .normal → ∀ E' a' w', StRel X E' st' a' w' → Q ex a' w') : wpOpIn (FW r) 0 P ops Q i K a w := by
  unfold evStep at he
  unfold wpOpIn
  split at he
  · rename_i hi
    have hi' : ops[i]? = none := by simpa using hi
    obtain ⟨rfl, rfl, rfl⟩ := yes3 he
    rw [hi']
    exact hK rfl E a w hs
  · rename_i o hi
    have hi' : ops[i]? = some o := by simpa using hi
    rw [hi']
    simp only
    split at he
    · rename_i hg
      rw [if_pos (evGuard_ok hs hg)]
      split at he
      rename_i h p hann
      exact evAct_ok he hr hO hs hK hQ
    · rename_i hg
      have hw := evGuard_ok hs hg
      obtain ⟨rfl, rfl, rfl⟩ := yes3 he
      rw [if_neg (by rw [hw]; simp)]
      exact ⟨fun _ _ => trivial, hK rfl E _ _ (hs.putS o.dst (undefD_rel E w))⟩
    · cases he
def evOps (fr : Bool) (P : Program) (L : List Ann) (rid : Nat) (ops : List Oper) : List Nat → St → Ex
  | [], st => .yes .normal st []
  | i :: l, st => exThen (evStep fr P L rid ops i st) (evOps fr P L rid ops l)
theorem evOps_ok {fr : Bool} {r : Option Nat} (hr : rOK fr r) {L : List Ann} {rid : Nat} {ops : Array Oper} {Q : Exit → Act → World → Prop} : ∀ (l : List Nat) {E : Env} {st : St} {a : Act} {w : World} {ex : Exit} {st' : St} {Os : List Prop},
    evOps fr P L rid ops.toList l st = .yes ex st' Os → All Os → StRel X E st a w → (∀ E' a' w', StRel X E' st' a' w' → Q ex a' w') → wpOpsIn (FW r) 0 P ops Q l a w
  | [], E, st, a, w, ex, st', Os, he, hO, hs, hQ => by
    obtain ⟨rfl, rfl, rfl⟩ := yes3 he
    exact hQ E a w hs
  | i :: l, E, st, a, w, ex, st', Os, he, hO, hs, hQ => by
    rw [wpOpsIn_cons]
    rcases exThen_get he with ⟨st1, O1, O2, h1, h2, rfl⟩ | ⟨h1, hne⟩
    · obtain ⟨hO1, hO2⟩ := All_append hO
      exact evStep_ok h1 hr hO1 hs (fun _ E' a' w' hs' => evOps_ok hr l h2 hO2 hs' hQ) (fun h => absurd rfl h)
    · exact evStep_ok h1 hr hO hs (fun h => absurd h hne) (fun _ => hQ)

/-! ### Code -/
/-- fr: in a function's own frame alone. -/
def CodeB (fr : Bool) (P : Program) (c : Code) (st : St) (ex : Exit) (st' : St) : Prop :=
  ∀ (r : Option Nat), rOK fr r → ∀ X E a w, StRel X E st a w → wpB r P c (fun e a' w' => e = ex ∧ ∃ E', StRel X E' st' a' w') a w
abbrev CodeOK (P : Program) (c : Code) (st : St) (ex : Exit) (st' : St) : Prop := CodeB false P c st ex st'
abbrev Code0 (P : Program) (c : Code) (st : St) (ex : Exit) (st' : St) : Prop := CodeB true P c st ex st'
theorem CodeB.zero {fr : Bool} {c : Code} {st st' : St} {ex : Exit} (h : CodeOK P c st ex st') : CodeB fr P c st ex st' := fun r _ => h r (fun h => by cases h)
theorem StRel.drawn (hs : StRel X E st a w) (n : Nat) : StRel X E st a { w with drawn := n } := by
  have hm : Moves E E w { w with drawn := n } (fun _ => false) := ⟨fun _ h => h, fun _ _ => rfl, fun _ _ => rfl⟩
  refine ⟨by simpa only [scrubs_none] using drelL_scrub hm hs.tmps, Marks.keep (E := E) (w := w) (H := st.heap) (E' := E) (w' := { w with drawn := n }) (H' := st.heap) (fun D hD => hD.keep (fun _ _ _ => rfl) (fun b hI => .inl hI) (fun i x b hx hl hb => .inr ⟨i, x, hx, hl, hb⟩)) hs.defers, ⟨fun i o ho => ?_, hs.heap.one, hs.heap.off, hs.heap.bnd⟩, ⟨hs.ctx.os, hs.ctx.tape, hs.ctx.output, hs.ctx.size, hs.ctx.kept, hs.ctx.new, hs.ctx.I0, hs.ctx.own, hs.ctx.I⟩, hs.pins⟩
  have := Ob.rel_moves hm (i := i) rfl (fun _ _ _ => rfl) (hs.heap.ob i o ho)
  rwa [Ob.scrub_none] at this

/-- What can be done next. -/
def readyL (ops : List Oper) (listed : List Bool) : List Nat :=
  (List.range ops.length).filter fun i => !listed.getD i true && (match ops[i]? with | some o => o.after.toList.all fun e => !Region.binds .any e || listed.getD e.on false | none => false)
theorem readyL_eq (ops : Array Oper) (listed : Array Bool) : Region.ready .any ops listed = readyL ops.toList listed.toList := by
  unfold Region.ready readyL
  simp only [Array.length_toList]
  refine List.filter_congr fun i _ => ?_
  simp only [Array.getD_eq_getD_getElem?, List.getD_eq_getElem?_getD, Array.getElem?_toList]
  cases ops[i]? <;> simp [Array.all_toList]
end
end Go.FI
