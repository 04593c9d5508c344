import Derived.Test.YtmfbkbjelikmoaaFi2
namespace Go.FI
open Go.RowKit

def putOb : List Ob → Nat → Ob → List Ob
  | [], _, ob => [ob]
  | _ :: t, 0, ob => ob :: t
  | x :: t, n + 1, ob => x :: putOb t n ob
theorem putOb_get : ∀ (H : List Ob) (id : Nat) (ob : Ob) (i : Nat), id ≤ H.length → (putOb H id ob)[i]? = if i = id then some ob else H[i]?
  | [], id, ob, i, h => by
    obtain rfl : id = 0 := by simpa using h
    cases i <;> simp [putOb]
  | x :: t, 0, ob, i, _ => by cases i <;> simp [putOb]
  | x :: t, id + 1, ob, i, h => by
    cases i with
    | zero => simp [putOb]
    | succ i =>
      simp only [putOb, List.getElem?_cons_succ, Nat.add_right_cancel_iff]
      exact putOb_get t id ob i (by simpa using h)

theorem Ob.scrub_live (q : Nat → Bool) (o : Ob) : (o.scrub q).live = o.live := by cases o <;> rfl
theorem Ob.scrub_none (o : Ob) : o.scrub (fun _ => false) = o := by
  cases o with
  | cells e cs => simp only [Ob.scrub]; rw [List.map_congr_left (f := FI.scrub fun _ => false) (g := id) (fun d _ => FI.scrub_none d)]; simp
  | loop r => simp only [Ob.scrub]; rw [List.map_congr_left (f := FI.scrub fun _ => false) (g := id) (fun d _ => FI.scrub_none d)]; simp
  | _ => rfl

theorem ownsRow_at {w w' : World} {base : Nat} {e : TypeId} {sz : Nat} {v : Value} {n : Nat} {xs : List Value} (h : w.ownsRow base e sz v n xs)
    (hb : ∀ b, blk v = some b → w'.heap[b]? = w.heap[b]?) : w'.ownsRow base e sz v n xs := by
  refine ⟨h.1, ?_⟩
  rcases h.2 with hn | ⟨g, cap, cur, rfl, hbg, hg, rest⟩
  · exact .inl hn
  · exact .inr ⟨g, cap, cur, rfl, hbg, (hb g rfl).trans hg, rest⟩

theorem Ob.rel_moves {E E' : Env} {w w' : World} {q : Nat → Bool} (h : Moves E E' w w' q) {i : Nat} {o : Ob} (hi : q i = false)
    (hb : ∀ b, o.live = true → blk (E.mu i) = some b → w'.heap[b]? = w.heap[b]?) (hr : o.rel E w i) : (o.scrub q).rel E' w' i := by
  cases o with
  | cells e cs =>
    obtain ⟨b, C, hm, hh, hc⟩ := hr
    exact ⟨b, C, (h.mu i hi).trans hm, (hb b rfl (by rw [hm]; rfl)).trans hh, drelL_scrub h hc⟩
  | row e sz es =>
    obtain ⟨xs, ho, hx, h1, h2⟩ := hr
    refine ⟨xs, ?_, relL_keep h.keep _ _ hx, h1, h2⟩
    rw [h.mu i hi]
    exact ownsRow_at ho fun b hbb => hb b rfl hbb
  | loop r =>
    obtain ⟨b, l, hm, hh, ht, rest⟩ := hr
    exact ⟨b, l, (h.mu i hi).trans hm, (hb b rfl (by rw [hm]; rfl)).trans hh, drelL_scrub h ht, rest⟩
  | dead => trivial

/-- One object is changed, or made anew. -/
structure Step (E E' : Env) (w w' : World) (H : List Ob) (q : Nat → Bool) (id : Nat) (ob : Ob) : Prop where
  moves : Moves E E' w w' q
  q : ∀ i, q i = true → i = id
  len : id ≤ H.length
  size : w.heap.size ≤ w'.heap.size
  os : w'.os = w.os
  tape : w'.tape = w.tape
  output : w'.output = w.output
  kept : ∀ b, b < w.heap.size → (∀ x, H[id]? = some x → x.live = true → blk (E.mu id) ≠ some b) → w'.heap[b]? = w.heap[b]?
  obr : ob.rel E' w' id
  blkr : ∀ b, ob.live = true → blk (E'.mu id) = some b → w.heap.size ≤ b ∨ (∃ x, H[id]? = some x ∧ x.live = true ∧ blk (E.mu id) = some b)
  I : ∀ b, E'.I b → E.I b ∨ (b < w'.heap.size ∧ (w.heap.size ≤ b ∨ (∃ x, H[id]? = some x ∧ x.live = true ∧ blk (E.mu id) = some b))) ∧ (ob.live = true → blk (E'.mu id) ≠ some b)

theorem blk_lt {E : Env} {w : World} {o : Ob} {i b : Nat} (hr : o.rel E w i) (hl : o.live = true) (hb : blk (E.mu i) = some b) : b < w.heap.size := by
  cases o with
  | cells e cs =>
    obtain ⟨b', C, hm, hh, _⟩ := hr
    rw [hm] at hb
    obtain rfl : b' = b := by simpa [blk] using hb
    exact (Array.getElem?_eq_some_iff.1 hh).1
  | row e sz es =>
    obtain ⟨xs, ho, _⟩ := hr
    rcases ho.2 with ⟨hn, _⟩ | ⟨g, cap, cur, hn, _, hg, _⟩
    · rw [hn] at hb; cases hb
    · rw [hn] at hb
      obtain rfl : g = b := by simpa [blk] using hb
      exact (Array.getElem?_eq_some_iff.1 hg).1
  | loop r =>
    obtain ⟨b', l, hm, hh, _⟩ := hr
    rw [hm] at hb
    obtain rfl : b' = b := by simpa [blk] using hb
    exact (Array.getElem?_eq_some_iff.1 hh).1
  | dead => cases hl

theorem get_step {H : List Ob} {q : Nat → Bool} {id : Nat} {ob : Ob} (hl : id ≤ H.length) (i : Nat) (x : Ob)
    (h : (putOb (H.map (Ob.scrub q)) id ob)[i]? = some x) : (i = id ∧ x = ob) ∨ (i ≠ id ∧ ∃ y, H[i]? = some y ∧ x = y.scrub q) := by
  rw [putOb_get _ _ _ _ (by simpa using hl)] at h
  split at h
  · rename_i hi
    exact .inl ⟨hi, by simpa using h.symm⟩
  · rename_i hi
    rw [List.getElem?_map] at h
    cases hy : H[i]? with
    | none => rw [hy] at h; cases h
    | some y => rw [hy] at h; exact .inr ⟨hi, y, rfl, by simpa using h.symm⟩

theorem Step.heap {E E' : Env} {w w' : World} {H : List Ob} {q : Nat → Bool} {id : Nat} {ob : Ob} (h : Step E E' w w' H q id ob) (hH : HeapRel E w H) :
    HeapRel E' w' (putOb (H.map (Ob.scrub q)) id ob) := by
  have hqi : ∀ i, i ≠ id → q i = false := fun i hi => by
    cases hq : q i with
    | false => rfl
    | true => exact absurd (h.q i hq) hi
  -- an object that is not this one lies in another block
  have apart : ∀ i y b, i ≠ id → H[i]? = some y → y.live = true → blk (E.mu i) = some b → b < w.heap.size ∧ ∀ x, H[id]? = some x → x.live = true → blk (E.mu id) ≠ some b := by
    intro i y b hi hy hl hb
    exact ⟨blk_lt (hH.ob i y hy) hl hb, fun x hx hxl hxb => hi (hH.one i id y x b hy hx hl hxl hb hxb)⟩
  refine ⟨?_, ?_, ?_, ?_⟩
  · intro i o ho
    rcases get_step h.len i o ho with ⟨rfl, rfl⟩ | ⟨hi, y, hy, rfl⟩
    · exact h.obr
    · refine Ob.rel_moves h.moves (hqi i hi) (fun b hl hb => ?_) (hH.ob i y hy)
      obtain ⟨h1, h2⟩ := apart i y b hi hy hl hb
      exact h.kept b h1 h2
  · intro i j x y b hx hy hxl hyl hxb hyb
    rcases get_step h.len i x hx with ⟨rfl, rfl⟩ | ⟨hi, x', hx', rfl⟩ <;> rcases get_step h.len j y hy with ⟨rfl, rfl⟩ | ⟨hj, y', hy', rfl⟩
    · rfl
    · rw [Ob.scrub_live] at hyl
      rw [h.moves.mu j (hqi j hj)] at hyb
      obtain ⟨h1, h2⟩ := apart j y' b hj hy' hyl hyb
      rcases h.blkr b hxl hxb with h3 | ⟨z, hz, hzl, hzb⟩
      · omega
      · exact absurd hzb (h2 z hz hzl)
    · rw [Ob.scrub_live] at hxl
      rw [h.moves.mu i (hqi i hi)] at hxb
      obtain ⟨h1, h2⟩ := apart i x' b hi hx' hxl hxb
      rcases h.blkr b hyl hyb with h3 | ⟨z, hz, hzl, hzb⟩
      · omega
      · exact absurd hzb (h2 z hz hzl)
    · rw [Ob.scrub_live] at hxl hyl
      rw [h.moves.mu i (hqi i hi)] at hxb
      rw [h.moves.mu j (hqi j hj)] at hyb
      exact hH.one i j x' y' b hx' hy' hxl hyl hxb hyb
  · intro i x b hx hxl hxb hI
    rcases h.I b hI with hI | ⟨⟨hlt, hor⟩, hne⟩
    · rcases get_step h.len i x hx with ⟨rfl, rfl⟩ | ⟨hi, x', hx', rfl⟩
      · rcases h.blkr b hxl hxb with h3 | ⟨z, hz, hzl, hzb⟩
        · have := hH.bnd b hI; omega
        · exact hH.off _ _ b hz hzl hzb hI
      · rw [Ob.scrub_live] at hxl
        rw [h.moves.mu i (hqi i hi)] at hxb
        exact hH.off _ _ b hx' hxl hxb hI
    · rcases get_step h.len i x hx with ⟨rfl, rfl⟩ | ⟨hi, x', hx', rfl⟩
      · exact hne hxl hxb
      · rw [Ob.scrub_live] at hxl
        rw [h.moves.mu i (hqi i hi)] at hxb
        obtain ⟨h1, h2⟩ := apart i x' b hi hx' hxl hxb
        rcases hor with h3 | ⟨z, hz, hzl, hzb⟩
        · omega
        · exact h2 z hz hzl hzb
  · intro b hI
    rcases h.I b hI with hI | ⟨⟨hlt, _⟩, _⟩
    · exact Nat.lt_of_lt_of_le (hH.bnd b hI) h.size
    · exact hlt

theorem Step.ctx {X : Ctx} {E E' : Env} {w w' : World} {H : List Ob} {q : Nat → Bool} {id : Nat} {ob : Ob} (h : Step E E' w w' H q id ob) (hX : CtxRel X E w H) :
    CtxRel X E' w' (putOb (H.map (Ob.scrub q)) id ob) := by
  have hqi : ∀ i, i ≠ id → q i = false := fun i hi => by
    cases hq : q i with
    | false => rfl
    | true => exact absurd (h.q i hq) hi
  refine ⟨h.os.trans hX.os, h.tape.trans hX.tape, h.output.trans hX.output, Nat.le_trans hX.size h.size, ?_, hX.new, ?_, ?_, fun b hI => h.moves.I b (hX.I b hI)⟩
  · intro b hb hown
    rw [h.kept b (Nat.lt_of_lt_of_le hb hX.size) (fun x hx hxl hxb => hown (hX.own id x b hx hxl hxb))]
    exact hX.kept b hb hown
  · intro b hI
    rcases h.I b hI with hI | ⟨⟨hlt, hor⟩, _⟩
    · exact hX.I0 b hI
    · rcases hor with h3 | ⟨z, hz, hzl, hzb⟩
      · exact .inr (hX.new b (Nat.le_trans hX.size h3))
      · exact .inr (hX.own id z b hz hzl hzb)
  · intro i x b hx hxl hxb
    rcases get_step h.len i x hx with ⟨rfl, rfl⟩ | ⟨hi, x', hx', rfl⟩
    · rcases h.blkr b hxl hxb with h3 | ⟨z, hz, hzl, hzb⟩
      · exact hX.new b (Nat.le_trans hX.size h3)
      · exact hX.own _ _ b hz hzl hzb
    · rw [Ob.scrub_live] at hxl
      rw [h.moves.mu i (hqi i hi)] at hxb
      exact hX.own _ _ b hx' hxl hxb

/-- The state behind such a step. -/
theorem Step.st {X : Ctx} {E E' : Env} {w w' : World} {H : List Ob} {q : Nat → Bool} {id : Nat} {ob : Ob} (h : Step E E' w w' H q id ob) {ts : List DV} {ps : List Pin} {a : Act} (hs : StRel X E ⟨ts, H, ps⟩ a w) (hp : ∀ i, pinned ps i = true → q i = false) :
    StRel X E' ⟨ts.map (scrub q), putOb (H.map (Ob.scrub q)) id ob, ps⟩ a w' :=
  ⟨drelL_scrub h.moves hs.tmps, hs.defers.keep fun D hD => hD.keep (fun b hb hf => h.kept b hb (fun x hx hxl => hf id x hx hxl)) (fun b hI => by
      rcases h.I b hI with hI | ⟨⟨hlt, hor⟩, _⟩
      · exact .inl hI
      · rcases hor with h3 | ⟨z, hz, hzl, hzb⟩
        · exact .inr (.inl h3)
        · exact .inr (.inr ⟨id, z, hz, hzl, hzb⟩)) (fun i x b hx hxl hxb => by
      rcases get_step h.len i x hx with ⟨rfl, rfl⟩ | ⟨hi, x', hx', rfl⟩
      · rcases h.blkr b hxl hxb with h3 | ⟨z, hz, hzl, hzb⟩
        · exact .inl h3
        · exact .inr ⟨_, z, hz, hzl, hzb⟩
      · rw [Ob.scrub_live] at hxl
        have hq : q i = false := by
          cases hq : q i with
          | false => rfl
          | true => exact absurd (h.q i hq) hi
        rw [h.moves.mu i hq] at hxb
        exact .inr ⟨i, x', hx', hxl, hxb⟩), h.heap hs.heap, h.ctx hs.ctx, fun i hi => (h.moves.mu i (hp i hi)).trans (hs.pins i hi)⟩

/-- A new block; the object that names it is new. -/
def Env.put (E : Env) (id : Nat) (v : Value) : Env := { E with mu := fun i => if i = id then v else E.mu i }
theorem Env.put_same (E : Env) (id : Nat) (v : Value) : (E.put id v).mu id = v := by simp [Env.put]
theorem Env.put_other (E : Env) {id i : Nat} (v : Value) (h : i ≠ id) : (E.put id v).mu i = E.mu i := by simp [Env.put, h]

/-- In place: the object's block alone is changed. -/
theorem Step.inplace {E : Env} {w w' : World} {H : List Ob} {id : Nat} {old ob : Ob} (hold : H[id]? = some old) (hl : old.live = true) (hH : HeapRel E w H)
    (hg : w.grownBy w' (blk (E.mu id))) (hob : ob.rel E w' id) : Step E E w w' H (fun _ => false) id ob := by
  refine ⟨⟨fun _ h => h, fun b hb => ?_, fun _ _ => rfl⟩, fun _ h => by simp at h, ?_, hg.size, hg.os, hg.tape, hg.output, ?_, hob, ?_, ?_⟩
  · refine hg.block b (hH.bnd b hb) (fun e => ?_)
    exact hH.off id old b hold hl e.symm hb
  · exact Nat.le_of_lt (List.getElem?_eq_some_iff.1 hold).1
  · intro b hb hne
    exact hg.block b hb (fun e => hne old hold hl e.symm)
  · intro b _ hb
    exact .inr ⟨old, hold, hl, hb⟩
  · intro b hb
    exact .inl hb

theorem scrubs_none (ts : List DV) : ts.map (scrub fun _ => false) = ts := by
  rw [List.map_congr_left (g := id) (fun d _ => scrub_none d)]; simp
theorem obs_none (H : List Ob) : H.map (Ob.scrub fun _ => false) = H := by
  rw [List.map_congr_left (g := id) (fun d _ => Ob.scrub_none d)]; simp

theorem StRel.inplace {X : Ctx} {E : Env} {w w' : World} {ts : List DV} {H : List Ob} {ps : List Pin} {a : Act} {id : Nat} {old ob : Ob} (hs : StRel X E ⟨ts, H, ps⟩ a w) (hold : H[id]? = some old) (hl : old.live = true)
    (hg : w.grownBy w' (blk (E.mu id))) (hob : ob.rel E w' id) : StRel X E ⟨ts, putOb H id ob, ps⟩ a w' := by
  have := (Step.inplace hold hl hs.heap hg hob).st hs (fun _ _ => rfl)
  rwa [scrubs_none, obs_none] at this

/-- The world has grown by what nobody speaks of. -/
theorem Moves.grown {E : Env} {w w' : World} {H : List Ob} (hH : HeapRel E w H) (hg : w.grownBy w' none) : Moves E E w w' (fun _ => false) :=
  ⟨fun _ h => h, fun b hb => hg.block b (hH.bnd b hb) (by simp), fun _ _ => rfl⟩
theorem StRel.grown {X : Ctx} {E : Env} {w w' : World} {st : St} {a : Act} (hs : StRel X E st a w) (hg : w.grownBy w' none) : StRel X E st a w' := by
  have hm := Moves.grown hs.heap hg
  have hk : ∀ b, b < w.heap.size → w'.heap[b]? = w.heap[b]? := fun b hb => hg.block b hb (by simp)
  refine ⟨?_, hs.defers.keep fun D hD => hD.keep (fun b hb _ => hk b hb) (fun b hI => .inl hI) (fun i x b hx hl hb => .inr ⟨i, x, hx, hl, hb⟩), ⟨?_, hs.heap.one, hs.heap.off, fun b hb => Nat.lt_of_lt_of_le (hs.heap.bnd b hb) hg.size⟩,
    ⟨hg.os.trans hs.ctx.os, hg.tape.trans hs.ctx.tape, hg.output.trans hs.ctx.output, Nat.le_trans hs.ctx.size hg.size, fun b hb ho => (hk b (Nat.lt_of_lt_of_le hb hs.ctx.size)).trans (hs.ctx.kept b hb ho), hs.ctx.new, hs.ctx.I0, hs.ctx.own, hs.ctx.I⟩, hs.pins⟩
  · have := drelL_scrub hm hs.tmps
    rwa [scrubs_none] at this
  · intro i o ho
    have := Ob.rel_moves hm rfl (fun b hl hb => hk b (blk_lt (hs.heap.ob i o ho) hl hb)) (hs.heap.ob i o ho)
    rwa [Ob.scrub_none] at this

theorem StRel.put {X : Ctx} {E : Env} {w : World} {ts : List DV} {H : List Ob} {ps : List Pin} {a : Act} (hs : StRel X E ⟨ts, H, ps⟩ a w) (dst : Option Tmp) {d : DV} {v : Value} (hv : d.rel E w v) :
    StRel X E ⟨match dst with | some t => ts.set t d | none => ts, H, ps⟩ (a.put dst v) w := by
  refine ⟨?_, ?_, hs.heap, hs.ctx, hs.pins⟩
  · cases dst with
    | none => exact hs.tmps
    | some t =>
      simp only [Act.put, Array.toList_setIfInBounds]
      exact drelL_set t d v hs.tmps hv
  · cases dst <;> exact hs.defers
end Go.FI
