import Derived.Test.YtmfbkbjelikmoaaFi18
namespace Go.FI
open Go.RowKit

def pone (ps : List PD) : PD :=
  match ps with
  | [p] => p
  | ps => .tup ps
theorem pone_rel {I : Nat → Prop} {E : Env} {w : World} {ds : List DV} {ps : List PD} {v : Value} (hl : ds.length = ps.length) (h : ∀ vs, drelL E w ds vs → relL I w ps vs) (hd : (oneOr ds).rel E w v) : (pone ps).rel I w v := by
  unfold oneOr at hd
  unfold pone
  split at hd
  · rename_i d
    match ps, hl with
    | [p], _ =>
      have := h [v] (by simp only [drelL]; exact ⟨v, [], rfl, hd, by simp⟩)
      simp only [relL] at this
      obtain ⟨u, us, e, hu, _⟩ := this
      injection e with e1 e2
      subst e1
      exact hu
  · rename_i hne
    have hps : ∀ p, ps ≠ [p] := by
      rintro p rfl
      match ds, hl with
      | [d], _ => exact hne d rfl
    split
    · rename_i p
      exact absurd rfl (hps p)
    · simp only [DV.rel] at hd
      obtain ⟨vs, rfl, hv⟩ := hd
      simp only [PD.rel]
      exact ⟨vs, rfl, h _ hv⟩
theorem snapL_length {H : List Ob} : ∀ {ds : List DV} {ps : List PD}, snapL H ds = some ps → ds.length = ps.length
  | [], ps, h => by obtain rfl := Option.some.inj h; rfl
  | d :: ds, ps, h => by
    unfold snapL at h
    split at h
    · rename_i p qs hp hq
      obtain rfl := Option.some.inj h
      simp [snapL_length hq]
    · cases h

/-- What a function of data gives: a check of its last state. -/
def exits (P : Program) (f : FuncId) (st : St) : Option (PD × List Prop) :=
  match evRes P st (fres P f) with
  | some (ds, Os) => match snapL st.heap ds with
    | some ps => some (pone ps, Os)
    | none => none
  | _ => none
/-- A function at what its caller owns nothing of. -/
def CallD (P : Program) (f : FuncId) (args : List DV) (res : PD) : Prop :=
  ∀ (E : Env) (w : World) (vs : Array Value), (∀ b, E.I b → b < w.heap.size) → drelL E w args vs.toList →
    Calls P f vs w fun e w' => ∃ v I', e = .returned v ∧ res.rel I' w' v ∧ Below w.heap.size w w' ∧ (∀ b, E.I b → I' b) ∧ (∀ b, I' b → E.I b ∨ w.heap.size ≤ b) ∧ ∀ b, I' b → b < w'.heap.size
theorem CallD.callP {P : Program} {f : FuncId} {args : List PD} {res : PD} (h : CallD P f (args.map .pd) res) : CallP P f args res :=
  fun I w vs hI ha => h ⟨fun _ => .pointer none, I⟩ w vs hI (relL_drelL.2 ha)
theorem heap0 {E : Env} {w : World} (hI : ∀ b, E.I b → b < w.heap.size) : HeapRel E w [] := ⟨fun i o ho => by simp at ho, fun i j x y b hx => by simp at hx, fun i x b hx => by simp at hx, hI⟩
theorem own0 {E : Env} {w : World} (b : Nat) (h : w.heap.size ≤ b ∨ owned E [] b) : w.heap.size ≤ b := by
  rcases h with h | ⟨i, x, hx, _⟩
  · exact h
  · simp at hx
theorem below0 {E E' : Env} {w w' : World} {st : St} {a : Act} (hs : StRel (ctx0 E w []) E' st a w') : Below w.heap.size w w' :=
  ⟨hs.ctx.os, hs.ctx.tape, hs.ctx.output, hs.ctx.size, fun b hb => hs.ctx.kept b hb (fun ho => Nat.not_lt.2 (own0 b ho) hb)⟩
theorem callD_of_code {P : Program} {f : FuncId} {args : List DV} {ex : Exit} {st' stE : St} {u : FrameMode} {res : PD} {Os : List Prop}
    (h : Code0 P (fbody P f) (entry P f args [] []) ex st') (hb : hasBody P f = true) (hx : modeOf ex = some u) (he : Ends P st' u stE .returning) (hres : exits P f stE = some (res, Os)) (hO : All Os) : CallD P f args res := by
  intro E w vs hI ha
  unfold exits at hres
  split at hres
  case h_2 => cases hres
  rename_i ds Os' hev
  split at hres
  case h_2 => cases hres
  rename_i ps hsn
  simp only [Option.some.injEq, Prod.mk.injEq] at hres
  obtain ⟨rfl, rfl⟩ := hres
  refine calls_fin h hb rfl hx he (heap0 hI) ha fun fn hf E' a' w' hs => ?_
  have hr : fres P f = fn.results.toList := by simp [fres, hf]
  rw [hr] at hev
  obtain ⟨v, hrun, hd⟩ := results_ok hs hev hO
  have hval : (pone ps).rel (fun b => E'.I b ∨ owned E' stE.heap b) w' v := pone_rel (snapL_length hsn) (fun vs hvs => snapL_rel hs.heap hsn hvs) hd
  refine ⟨v, hrun, v, _, rfl, hval, below0 hs, fun b h => .inl (hs.ctx.I b h), ?_, ?_⟩
  · rintro b (h | ⟨i, x, hx, hl, hbb⟩)
    · rcases hs.ctx.I0 b h with h | h
      · exact .inl h
      · exact .inr (own0 b h)
    · exact .inr (own0 b (hs.ctx.own i x b hx hl hbb))
  · rintro b (h | ⟨i, x, hx, hl, hbb⟩)
    · exact hs.heap.bnd b h
    · exact blk_lt (hs.heap.ob i x hx) hl hbb
/-- A function of data that panics. -/
theorem callPX_of_code {P : Program} {f : FuncId} {args : List PD} {ex : Exit} {st' stE : St} {u : FrameMode} {ch : List PanicEntry}
    (h : Code0 P (fbody P f) (entry P f (args.map .pd) [] []) ex st') (hb : hasBody P f = true) (hx : modeOf ex = some u) (he : Ends P st' u stE (.panicking ch)) : CallPX P f args ch := by
  intro I w vs hI ha
  refine calls_fin (E := ⟨fun _ => .pointer none, I⟩) h hb rfl hx he (heap0 hI) (relL_drelL.2 ha) fun fn hf E' a' w' hs => ?_
  exact ⟨rfl, below0 hs⟩

/-- A function of data, walked to its end. -/
def runD (P : Program) (L : List Ann) (C : List Cut) (f : FuncId) (args : List DV) : Option (PD × List Prop) :=
  match hasBody P f with
  | true => match evCodeB true P L C (fbody P f) (entry P f args [] []) with
    | .yes ex st O => match isOut ex, ghosts st.pins, exits P f st with
      | true, [], some (r, O') => some (r, O ++ O')
      | _, _, _ => none
    | .no => none
  | false => none
def runF (P : Program) (L : List Ann) (C : List Cut) (f : FuncId) (args : List PD) : Option (PD × List Prop) := runD P L C f (args.map .pd)
theorem isOut_mode {ex : Exit} (h : isOut ex = true) : modeOf ex = some .returning := by
  unfold isOut at h
  split at h <;> first | rfl | cases h
theorem runD_ok {P : Program} {L : List Ann} {C : List Cut} {f : FuncId} {args : List DV} {res : PD} {Os : List Prop} (h : runD P L C f args = some (res, Os)) (hO : All Os) : CallD P f args res := by
  unfold runD at h
  split at h
  case h_2 => cases h
  rename_i hb
  split at h
  case h_2 => cases h
  rename_i ex st O he
  split at h
  case h_2 => cases h
  rename_i r O' hout hgh hx
  simp only [Option.some.injEq, Prod.mk.injEq] at h
  obtain ⟨rfl, rfl⟩ := h
  obtain ⟨hO1, hO2⟩ := All_append hO
  exact callD_of_code (evCodeB_ok _ he hO1) hb (isOut_mode hout) (.done hgh) hx hO2
theorem runF_ok {P : Program} {L : List Ann} {C : List Cut} {f : FuncId} {args : List PD} {res : PD} {Os : List Prop} (h : runF P L C f args = some (res, Os)) (hO : All Os) : CallP P f args res := (runD_ok h hO).callP
theorem runD_to {P : Program} {L : List Ann} {C : List Cut} {f : FuncId} {args : List DV} {res r : PD} {Os : List Prop} (h : runD P L C f args = some (r, Os)) (hO : All Os) (e : r = res) : CallD P f args res := e ▸ runD_ok h hO
/-- A function of data that panics, walked to its panic. -/
def runX (P : Program) (L : List Ann) (C : List Cut) (f : FuncId) (args : List PD) : Option (List PanicEntry × List Prop) :=
  match hasBody P f with
  | true => match evCodeB true P L C (fbody P f) (entry P f (args.map .pd) [] []) with
    | .yes (.panic ch) st O => match ghosts st.pins with
      | [] => some (ch, O)
      | _ => none
    | _ => none
  | false => none
theorem runX_to {P : Program} {L : List Ann} {C : List Cut} {f : FuncId} {args : List PD} {ch ch' : List PanicEntry} {Os : List Prop} (h : runX P L C f args = some (ch, Os)) (hO : All Os) (e : ch = ch') : CallPX P f args ch' := by
  subst e
  unfold runX at h
  split at h
  case h_2 => cases h
  rename_i hb
  split at h
  case h_2 => cases h
  rename_i ch1 st O he
  split at h
  case h_2 => cases h
  rename_i hgh
  simp only [Option.some.injEq, Prod.mk.injEq] at h
  obtain ⟨rfl, rfl⟩ := h
  exact callPX_of_code (evCodeB_ok _ he hO) hb rfl (.done hgh)
/-- A slice is nil, or it is not. -/
theorem CallP.ofNil {P : Program} {f : FuncId} {sz : Nat} {es : List (List PD)} {ps : List PD} {res : PD} (h0 : es = [] → CallD P f (.nl :: ps.map .pd) res) (h1 : CallD P f (.nn sz es :: ps.map .pd) res) : CallP P f (.ds sz es :: ps) res := by
  intro I w vs hI ha
  simp only [relL] at ha
  obtain ⟨v, vs', e, hv, hx⟩ := ha
  have hv0 := hv
  simp only [PD.rel] at hv
  obtain ⟨A, c, rfl, _, _, hne⟩ := hv
  cases hA : A with
  | none =>
    have he : es = [] := by
      by_cases h : es = []
      · exact h
      · obtain ⟨b, o, hb, _⟩ := hne h
        rw [hA] at hb
        cases hb
    refine h0 he ⟨fun _ => .pointer none, I⟩ w vs hI ?_
    simp only [drelL]
    exact ⟨_, vs', e, by simp only [DV.rel]; exact ⟨c, by rw [hA, he]; rfl⟩, relL_drelL.2 hx⟩
  | some ad =>
    refine h1 ⟨fun _ => .pointer none, I⟩ w vs hI ?_
    simp only [drelL]
    exact ⟨_, vs', e, by simp only [DV.rel]; exact ⟨hv0, ad, _, _, by rw [hA]⟩, relL_drelL.2 hx⟩
theorem PD.nils_ds {I : Nat → Prop} {w : World} {v : Value} {sz : Nat} (h : PD.nils.rel I w v) : (PD.ds sz []).rel I w v := by
  simp only [PD.rel] at h ⊢
  exact ⟨none, 0, h, by simp, by simp, fun hne => absurd rfl hne⟩
theorem CallD.weak {P : Program} {f : FuncId} {args : List DV} {r r' : PD} (h : CallD P f args r) (hw : ∀ (I : Nat → Prop) (w : World) (v : Value), r.rel I w v → r'.rel I w v) : CallD P f args r' :=
  fun E w vs hI ha => (h E w vs hI ha).mono fun _ _ ⟨v, I', e, hr, rest⟩ => ⟨v, I', e, hw _ _ _ hr, rest⟩
theorem CallP.weak {P : Program} {f : FuncId} {args : List PD} {r r' : PD} (h : CallP P f args r) (hw : ∀ (I : Nat → Prop) (w : World) (v : Value), r.rel I w v → r'.rel I w v) : CallP P f args r' :=
  fun I w vs hI ha => (h I w vs hI ha).mono fun _ _ ⟨v, I', e, hr, rest⟩ => ⟨v, I', e, hw _ _ _ hr, rest⟩
theorem CallP.to {P : Program} {f : FuncId} {args : List PD} {r r' : PD} (h : CallP P f args r) (e : r = r') : CallP P f args r' := e ▸ h
theorem runF_to {P : Program} {L : List Ann} {C : List Cut} {f : FuncId} {args : List PD} {res r : PD} {Os : List Prop} (h : runF P L C f args = some (r, Os)) (hO : All Os) (e : r = res) : CallP P f args res := (runF_ok h hO).to e
end Go.FI
