import Derived.Test.YtmfbkbjelikmoaaFi1
namespace Go.FI
open Go.RowKit

/-- What a slot holds: data, or a way to what the call owns. -/
inductive DV where
  | pd (p : PD)
  | ptr (id off : Nat)
  | dptr (E : List PD) (off : Nat)
  | sl (id n : Nat)
  | asl (id off n c : Nat)
  | rptr (id i sz off : Nat)
  | clo (f : FuncId) (caps : List DV)
  | yld (l : Nat)
  | tup (cs : List DV)
  | iface (t : TypeId) (d : DV)
  | nn (sz : Nat) (es : List (List PD))
  | nl
  | any

structure Env where
  mu : Nat → Value
  I : Nat → Prop

section
variable (E : Env) (w : World)
mutual
def DV.rel : DV → Value → Prop
  | .pd p, v => p.rel E.I w v
  | .ptr id off, v => ∃ b, E.mu id = .pointer (some ⟨b, 0, none⟩) ∧ v = .pointer (some ⟨b, off, none⟩)
  | .dptr cs off, v => ∃ b o, v = .pointer (some ⟨b, o + off, none⟩) ∧ E.I b ∧ relAt E.I w b o cs
  | .sl id n, v => ∃ A l c, E.mu id = .slice A l c ∧ n ≤ l ∧ v = .slice A n c
  | .asl id off n c, v => ∃ b, E.mu id = .pointer (some ⟨b, 0, none⟩) ∧ v = .slice (some ⟨b, off, none⟩) n c
  | .rptr id i sz off, v => ∃ b l c, E.mu id = .slice (some ⟨b, 0, none⟩) l c ∧ v = .pointer (some ⟨b, i * sz + off, none⟩)
  | .clo f cs, v => ∃ vs : Array Value, v = .func (.func f) #[] vs ∧ drelL cs vs.toList
  | .yld l, v => ∃ b, E.mu l = .pointer (some ⟨b, 0, none⟩) ∧ v = .func (.yield b) #[] #[]
  | .tup cs, v => ∃ vs : Array Value, v = .tuple vs ∧ drelL cs vs.toList
  | .iface t d, v => ∃ x, v = .iface t x ∧ DV.rel d x
  | .nn sz es, v => (PD.ds sz es).rel E.I w v ∧ ∃ a l c, v = .slice (some a) l c
  | .nl, v => ∃ c, v = .slice none 0 c
  | .any, _ => True
  termination_by structural d => d
def drelL : List DV → List Value → Prop
  | [], vs => vs = []
  | p :: ps, vs => ∃ v vs', vs = v :: vs' ∧ DV.rel p v ∧ drelL ps vs'
  termination_by structural ps => ps
end
end

mutual
/-- Is one of those objects spoken of? -/
def DV.says (p : Nat → Bool) : DV → Bool
  | .ptr i _ | .sl i _ | .asl i _ _ _ | .rptr i _ _ _ | .yld i => p i
  | .clo _ cs | .tup cs => saysL p cs
  | .iface _ d => d.says p
  | _ => false
  termination_by structural d => d
def saysL (p : Nat → Bool) : List DV → Bool
  | [] => false
  | d :: ds => d.says p || saysL p ds
  termination_by structural ds => ds
end
mutual
theorem DV.says_none : ∀ (d : DV), d.says (fun _ => false) = false
  | .pd _ | .ptr _ _ | .dptr _ _ | .sl _ _ | .asl _ _ _ _ | .rptr _ _ _ _ | .yld _ | .nn _ _ | .nl | .any => rfl
  | .clo _ cs | .tup cs => saysL_none cs
  | .iface _ d => DV.says_none d
theorem saysL_none : ∀ (ds : List DV), saysL (fun _ => false) ds = false
  | [] => rfl
  | d :: ds => by simp [saysL, DV.says_none d, saysL_none ds]
end

/-- What speaks of those objects is forgotten. -/
def scrub (p : Nat → Bool) (d : DV) : DV := if d.says p then .any else d
theorem scrub_none (d : DV) : scrub (fun _ => false) d = d := by simp [scrub, DV.says_none]

/-- The record of a range over a function. -/
structure Rec where
  nf : Nat
  state : LoopState
  pending : Option Code
  tmps : List DV
  params : List Tmp
  assign : Code
  body : Code
inductive Ob where
  | cells (e : TypeId) (cs : List DV)
  | row (e : TypeId) (sz : Nat) (es : List (List PD))
  | loop (r : Rec)
  | dead

def Ob.live : Ob → Bool
  | .dead => false
  | _ => true

def Ob.scrub (p : Nat → Bool) : Ob → Ob
  | .cells e cs => .cells e (cs.map (FI.scrub p))
  | .loop r => .loop { r with tmps := r.tmps.map (FI.scrub p) }
  | o => o

def blk : Value → Option Nat
  | .pointer (some a) => some a.block
  | .slice (some a) _ _ => some a.block
  | _ => none

def Ob.rel (E : Env) (w : World) (id : Nat) : Ob → Prop
  | .cells e cs => ∃ b C, E.mu id = .pointer (some ⟨b, 0, none⟩) ∧ w.heap[b]? = some (.cells C e (0, 0)) ∧ drelL E w cs C.toList
  | .row e sz es => ∃ xs, w.ownsRow 0 e sz (E.mu id) es.length xs ∧ relL E.I w es.flatten xs ∧ (∀ x ∈ es, x.length = sz) ∧ ∀ u ∈ xs, u.oneCell' = true
  | .loop r => ∃ b l, E.mu id = .pointer (some ⟨b, 0, none⟩) ∧ w.heap[b]? = some (.loop l) ∧ drelL E w r.tmps l.tmps.toList ∧ l.state = r.state ∧ l.pending = r.pending ∧ l.params.toList = r.params ∧ l.assign = r.assign ∧ l.body = r.body ∧ l.fn < r.nf
  | .dead => True

/-- Where a call began: the world, the blocks that it owns, the blocks that it may read for good. -/
structure Ctx where
  w0 : World
  own : Nat → Prop
  I0 : Nat → Prop
  mu0 : Nat → Value

structure HeapRel (E : Env) (w : World) (H : List Ob) : Prop where
  ob : ∀ (id : Nat) (o : Ob), H[id]? = some o → o.rel E w id
  one : ∀ (i j : Nat) (x y : Ob) (b : Nat), H[i]? = some x → H[j]? = some y → x.live = true → y.live = true → blk (E.mu i) = some b → blk (E.mu j) = some b → i = j
  off : ∀ (i : Nat) (x : Ob) (b : Nat), H[i]? = some x → x.live = true → blk (E.mu i) = some b → ¬ E.I b
  bnd : ∀ b, E.I b → b < w.heap.size

structure CtxRel (X : Ctx) (E : Env) (w : World) (H : List Ob) : Prop where
  os : w.os = X.w0.os
  tape : w.tape = X.w0.tape
  output : w.output = X.w0.output
  size : X.w0.heap.size ≤ w.heap.size
  kept : ∀ b, b < X.w0.heap.size → ¬ X.own b → w.heap[b]? = X.w0.heap[b]?
  new : ∀ b, X.w0.heap.size ≤ b → X.own b
  I0 : ∀ b, E.I b → X.I0 b ∨ X.own b
  own : ∀ (i : Nat) (x : Ob) (b : Nat), H[i]? = some x → x.live = true → blk (E.mu i) = some b → X.own b
  I : ∀ b, X.I0 b → E.I b

/-- A deferred call of a function, at ways to objects that do not move. -/
structure Gh where
  f : FuncId
  args : List (Nat × Nat)
/-- What stays as it is for as long as a function runs: objects that do not move, deferred calls. -/
inductive Pin where
  | o (i : Nat)
  | d (g : Gh)
def pinned : List Pin → Nat → Bool
  | [], _ => false
  | .o j :: l, i => match Nat.beq j i with | true => true | false => pinned l i
  | .d _ :: l, i => pinned l i
def ghosts : List Pin → List Gh
  | [] => []
  | .o _ :: l => ghosts l
  | .d g :: l => g :: ghosts l
def offV (v : Value) (o : Nat) : Value :=
  match v with
  | .pointer (some a) => .pointer (some ⟨a.block, o, none⟩)
  | v => v
def ghD (X : Ctx) (g : Gh) : Deferred := { target := .fn (.func g.f) #[], args := (g.args.map fun p => offV (X.mu0 p.1) p.2).toArray }

/-- The slots, the objects, and the objects that do not move. -/
structure St where
  tmps : List DV
  heap : List Ob
  pins : List Pin

/-- What a range over a function leaves among the deferred calls: a mark of a block that holds none. -/
def markOf (D : Nat) : Deferred := { target := .collected D, args := #[] }
structure MarkOK (X : Ctx) (E : Env) (w : World) (H : List Ob) (D : Nat) : Prop where
  here : w.heap[D]? = some (.deferred (some []))
  own : X.own D
  off : ¬ E.I D
  free : ∀ (i : Nat) (x : Ob), H[i]? = some x → x.live = true → blk (E.mu i) ≠ some D
def Marks (X : Ctx) (E : Env) (w : World) (H : List Ob) : List Gh → List Deferred → Prop
  | gs, [] => gs = []
  | gs, d :: l => ((∃ D, d = markOf D ∧ MarkOK X E w H D) ∧ d ∉ l ∧ Marks X E w H gs l) ∨ ∃ g gs', gs = g :: gs' ∧ d = ghD X g ∧ Marks X E w H gs' l
theorem Marks.keep {X : Ctx} {E E' : Env} {w w' : World} {H H' : List Ob} (hm : ∀ D, MarkOK X E w H D → MarkOK X E' w' H' D) : ∀ {l : List Deferred} {gs : List Gh}, Marks X E w H gs l → Marks X E' w' H' gs l
  | [], _, h => h
  | _ :: _, _, .inl ⟨⟨D, hd, h⟩, hn, hl⟩ => .inl ⟨⟨D, hd, hm D h⟩, hn, Marks.keep hm hl⟩
  | _ :: _, _, .inr ⟨g, gs', e, hd, hl⟩ => .inr ⟨g, gs', e, hd, Marks.keep hm hl⟩
theorem MarkOK.keep {X : Ctx} {E E' : Env} {w w' : World} {H H' : List Ob} {D : Nat} (h : MarkOK X E w H D)
    (hk : ∀ b, b < w.heap.size → (∀ (i : Nat) (x : Ob), H[i]? = some x → x.live = true → blk (E.mu i) ≠ some b) → w'.heap[b]? = w.heap[b]?)
    (hI : ∀ b, E'.I b → E.I b ∨ w.heap.size ≤ b ∨ ∃ (i : Nat) (x : Ob), H[i]? = some x ∧ x.live = true ∧ blk (E.mu i) = some b)
    (ho : ∀ (i : Nat) (x : Ob) (b : Nat), H'[i]? = some x → x.live = true → blk (E'.mu i) = some b → w.heap.size ≤ b ∨ ∃ (j : Nat) (y : Ob), H[j]? = some y ∧ y.live = true ∧ blk (E.mu j) = some b) : MarkOK X E' w' H' D := by
  have hlt : D < w.heap.size := (Array.getElem?_eq_some_iff.1 h.here).1
  refine ⟨(hk D hlt h.free).trans h.here, h.own, fun hI' => ?_, fun i x hx hl hb => ?_⟩
  · rcases hI D hI' with h1 | h1 | ⟨i, x, hx, hl, hb⟩
    · exact h.off h1
    · omega
    · exact h.free i x hx hl hb
  · rcases ho i x D hx hl hb with h1 | ⟨j, y, hy, hyl, hyb⟩
    · omega
    · exact h.free j y hy hyl hyb

structure StRel (X : Ctx) (E : Env) (st : St) (a : Act) (w : World) : Prop where
  tmps : drelL E w st.tmps a.tmps.toList
  defers : Marks X E w st.heap (ghosts st.pins) a.defers
  heap : HeapRel E w st.heap
  ctx : CtxRel X E w st.heap
  pins : ∀ i, pinned st.pins i = true → E.mu i = X.mu0 i

/-! ### Lists of slots -/
section
variable {E : Env} {w : World}
theorem drelL_length : ∀ {ps : List DV} {vs : List Value}, drelL E w ps vs → vs.length = ps.length
  | [], _, h => by simp only [drelL] at h; simp [h]
  | _ :: ps, _, h => by
    simp only [drelL] at h
    obtain ⟨v, vs', rfl, _, h'⟩ := h
    simp [drelL_length h']
theorem drelL_get : ∀ {ps : List DV} {vs : List Value} (i : Nat) (p : DV), drelL E w ps vs → ps[i]? = some p → ∃ v, vs[i]? = some v ∧ p.rel E w v
  | [], _, _, _, _, hi => by simp at hi
  | _ :: ps, _, i, p, h, hi => by
    simp only [drelL] at h
    obtain ⟨v, vs', rfl, hv, h'⟩ := h
    match i with
    | 0 => simp at hi; subst hi; exact ⟨v, rfl, hv⟩
    | i + 1 => exact drelL_get i p h' (by simpa using hi)
theorem drelL_set : ∀ {ps : List DV} {vs : List Value} (i : Nat) (p : DV) (u : Value), drelL E w ps vs → p.rel E w u → drelL E w (ps.set i p) (vs.set i u)
  | [], _, _, _, _, h, _ => by simp only [drelL] at h; simp [h, drelL]
  | _ :: ps, _, i, p, u, h, hu => by
    simp only [drelL] at h
    obtain ⟨v, vs', rfl, hv, h'⟩ := h
    match i with
    | 0 => simp only [List.set_cons_zero, drelL]; exact ⟨u, vs', rfl, hu, h'⟩
    | i + 1 => simp only [List.set_cons_succ, drelL]; exact ⟨v, _, rfl, hv, drelL_set i p u h' hu⟩
theorem drelL_append : ∀ {ps qs : List DV} {vs us : List Value}, drelL E w ps vs → drelL E w qs us → drelL E w (ps ++ qs) (vs ++ us)
  | [], _, _, _, h, h' => by simp only [drelL] at h; simpa [h] using h'
  | _ :: ps, _, _, _, h, h' => by
    simp only [drelL] at h
    obtain ⟨v, vs', rfl, hv, h''⟩ := h
    simp only [List.cons_append, drelL]
    exact ⟨v, _, rfl, hv, drelL_append h'' h'⟩
theorem drelL_take : ∀ {ps : List DV} {vs : List Value} (n : Nat), drelL E w ps vs → drelL E w (ps.take n) (vs.take n)
  | [], _, _, h => by simp only [drelL] at h; simp [h, drelL]
  | _ :: ps, _, n, h => by
    simp only [drelL] at h
    obtain ⟨v, vs', rfl, hv, h'⟩ := h
    match n with
    | 0 => simp [drelL]
    | n + 1 => simp only [List.take_succ_cons, drelL]; exact ⟨v, _, rfl, hv, drelL_take n h'⟩
theorem drelL_drop : ∀ {ps : List DV} {vs : List Value} (n : Nat), drelL E w ps vs → drelL E w (ps.drop n) (vs.drop n)
  | [], _, _, h => by simp only [drelL] at h; simp [h, drelL]
  | _ :: ps, _, n, h => by
    have h0 := h
    simp only [drelL] at h
    obtain ⟨v, vs', rfl, hv, h'⟩ := h
    match n with
    | 0 => exact h0
    | n + 1 => simpa using drelL_drop n h'
theorem drelL_map {f : DV → DV} (hf : ∀ d v, d.rel E w v → (f d).rel E w v) : ∀ {ps : List DV} {vs : List Value}, drelL E w ps vs → drelL E w (ps.map f) vs
  | [], _, h => by simpa [drelL] using h
  | _ :: ps, _, h => by
    simp only [drelL] at h
    obtain ⟨v, vs', rfl, hv, h'⟩ := h
    simp only [List.map_cons, drelL]
    exact ⟨v, vs', rfl, hf _ _ hv, drelL_map hf h'⟩
theorem scrub_rel (p : Nat → Bool) (d : DV) (v : Value) (h : d.rel E w v) : (scrub p d).rel E w v := by
  unfold scrub
  split
  · simp [DV.rel]
  · exact h
theorem drelL_pd : ∀ {ps : List PD} {vs : List Value}, drelL E w (ps.map DV.pd) vs ↔ relL E.I w ps vs
  | [], _ => by simp [drelL, relL]
  | _ :: ps, _ => by
    simp only [List.map_cons, drelL, relL, DV.rel, drelL_pd]
end

/-- The world goes on: the blocks of I are kept; the objects but one keep their place. -/
structure Moves (E E' : Env) (w w' : World) (p : Nat → Bool) : Prop where
  I : ∀ b, E.I b → E'.I b
  heap : ∀ b, E.I b → w'.heap[b]? = w.heap[b]?
  mu : ∀ i, p i = false → E'.mu i = E.mu i

theorem Moves.keep {E E' : Env} {w w' : World} {p : Nat → Bool} (h : Moves E E' w w' p) : Keep E.I w E'.I w' := fun b hb => ⟨h.I b hb, h.heap b hb⟩

section
variable {E E' : Env} {w w' : World} {q : Nat → Bool}
mutual
theorem DV.rel_moves (h : Moves E E' w w' q) : ∀ (d : DV) (v : Value), d.says q = false → d.rel E w v → d.rel E' w' v
  | .pd p, v, _, hr => by simpa [DV.rel] using PD.rel_keep h.keep p v (by simpa [DV.rel] using hr)
  | .ptr i o, v, hs, hr => by
    simp only [DV.rel, DV.says] at hr hs ⊢
    rw [h.mu i hs]; exact hr
  | .dptr cs o, v, _, hr => by
    simp only [DV.rel] at hr ⊢
    obtain ⟨b, o', e, hb, hx⟩ := hr
    exact ⟨b, o', e, h.I b hb, relAt_keep h.keep b (h.heap b hb) _ _ hx⟩
  | .sl i n, v, hs, hr => by
    simp only [DV.rel, DV.says] at hr hs ⊢
    rw [h.mu i hs]; exact hr
  | .asl i o n c, v, hs, hr => by
    simp only [DV.rel, DV.says] at hr hs ⊢
    rw [h.mu i hs]; exact hr
  | .rptr i j sz o, v, hs, hr => by
    simp only [DV.rel, DV.says] at hr hs ⊢
    rw [h.mu i hs]; exact hr
  | .yld i, v, hs, hr => by
    simp only [DV.rel, DV.says] at hr hs ⊢
    rw [h.mu i hs]; exact hr
  | .clo f cs, v, hs, hr => by
    simp only [DV.rel, DV.says] at hr hs ⊢
    obtain ⟨vs, e, hx⟩ := hr
    exact ⟨vs, e, drelL_moves h cs _ hs hx⟩
  | .tup cs, v, hs, hr => by
    simp only [DV.rel, DV.says] at hr hs ⊢
    obtain ⟨vs, e, hx⟩ := hr
    exact ⟨vs, e, drelL_moves h cs _ hs hx⟩
  | .iface t d, v, hs, hr => by
    simp only [DV.rel, DV.says] at hr hs ⊢
    obtain ⟨x, e, hx⟩ := hr
    exact ⟨x, e, DV.rel_moves h d x hs hx⟩
  | .nn sz es, v, _, hr => by
    simp only [DV.rel] at hr ⊢
    exact ⟨PD.rel_keep h.keep _ v hr.1, hr.2⟩
  | .nl, _, _, hr => by simpa only [DV.rel] using hr
  | .any, _, _, _ => by simp [DV.rel]
theorem drelL_moves (h : Moves E E' w w' q) : ∀ (ds : List DV) (vs : List Value), saysL q ds = false → drelL E w ds vs → drelL E' w' ds vs
  | [], vs, _, hr => by simpa [drelL] using hr
  | d :: ds, vs, hs, hr => by
    simp only [drelL, saysL, Bool.or_eq_false_iff] at hr hs ⊢
    obtain ⟨v, vs', e, hv, hx⟩ := hr
    exact ⟨v, vs', e, DV.rel_moves h d v hs.1 hv, drelL_moves h ds vs' hs.2 hx⟩
end
theorem scrub_moves (h : Moves E E' w w' q) (d : DV) (v : Value) (hr : d.rel E w v) : (scrub q d).rel E' w' v := by
  unfold scrub
  split
  · simp [DV.rel]
  · rename_i hs
    exact DV.rel_moves h d v (by simpa using hs) hr
theorem drelL_scrub (h : Moves E E' w w' q) : ∀ {ds : List DV} {vs : List Value}, drelL E w ds vs → drelL E' w' (ds.map (scrub q)) vs
  | [], _, hr => by simpa [drelL] using hr
  | d :: ds, _, hr => by
    simp only [drelL, List.map_cons] at hr ⊢
    obtain ⟨v, vs', e, hv, hx⟩ := hr
    exact ⟨v, vs', e, scrub_moves h d v hv, drelL_scrub h hx⟩
end
end Go.FI
