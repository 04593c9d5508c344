import Derived.Test.YtmfbkbjelikmoaaFi24
namespace Go.FI
open Go.RowKit

/-- The jump that a round leaves pending. -/
def jumpOf (ex : Exit) : Option (Option Code) :=
  match ex with
  | .normal => some none
  | .ret => some (some .ret)
  | .exit id => some (some (.exit id))
  | _ => none
def recSt (st : St) (id : Nat) (r : Rec) (s : LoopState) (p : Option Code) : St := ⟨st.tmps, putOb st.heap id (.loop { r with state := s, pending := p }), st.pins⟩
section
variable {P : Program}
theorem rec_at {X : Ctx} {E : Env} {st : St} {a : Act} {w : World} {id b : Nat} {r : Rec} (hs : StRel X E st a w) (hH : st.heap[id]? = some (.loop r)) (hm : E.mu id = .pointer (some ⟨b, 0, none⟩)) : ∃ l, w.heap[b]? = some (.loop l) ∧ l.state = r.state ∧ l.pending = r.pending := by
  obtain ⟨b', l, hm', hl, _, h1, h2, _⟩ := hs.heap.ob id _ hH
  obtain rfl : b = b' := by rw [hm] at hm'; injection hm' with h; injection h with h; injection h
  exact ⟨l, hl, h1, h2⟩
/-- A round, from its code, to the end of its body. -/
theorem round_walk {H : List Ob} {id : Nat} {args : List DV} {pins : List Pin} {r r1 : Rec} {st1 st2 : St} {ex : Exit} (hid : H[id]? = some (.loop r)) (hpin : pinned pins id = true) (hg : ghosts pins = [])
    (hA : CodeOK P r.assign (roundSt r args H pins) .normal st1) (hp1 : st1.pins = pins) (h1 : st1.heap[id]? = some (.loop r1)) (hr1 : r1.state = .ready)
    (hB : CodeOK P r.body (recSt st1 id r1 .busy r1.pending) ex st2)
    {E : Env} {w : World} {b : Nat} {l : Loop} {vs : Array Value} (hH : HeapRel E w H) (hm : E.mu id = .pointer (some ⟨b, 0, none⟩)) (hl : w.heap[b]? = some (.loop l)) (hfn : l.fn < P.funcs.size) (ha : drelL E w args vs.toList) (hsz : vs.size = l.params.size)
    {R : Ending → World → Prop} (hR : ∀ E' a' w', StRel (ctx0 E w H) E' st2 a' w' → roundPostX P b R ex a' w') :
    RoundIn (FW none) 0 P b l.fn ((l.params.zip vs).foldl (fun tmps (t, a) => tmps.setIfInBounds t a) l.tmps) l.assign l.body w R := by
  have hs0 := round_entry hg hH hid hm hl ha hsz
  have hrec := hH.ob id _ hid
  obtain ⟨b', l', hm', hl', _, _, _, _, h5, h6, _⟩ := hrec
  obtain rfl : b = b' := by rw [hm] at hm'; injection hm' with h; injection h with h; injection h
  obtain rfl : l = l' := by rw [hl] at hl'; injection hl' with h; injection h
  refine roundIn_of_wpB hfn ?_
  rw [h5, h6]
  refine hA.wp (r := some b) (fun h => by cases h) hs0 fun E1 a1 w1 hs1 => ?_
  have hm1 : E1.mu id = .pointer (some ⟨b, 0, none⟩) := (hs1.pins id (by rw [hp1]; exact hpin)).trans hm
  obtain ⟨l1, hl1, hst1, hpend⟩ := rec_at hs1 h1 hm1
  refine ⟨_, run_beginRound hl1 (by rw [hst1, hr1]), ?_⟩
  have hs1' := hs1.setRec h1 hm1 hl1 .busy r1.pending
  rw [← hpend] at hs1'
  have hs1'' : StRel (ctx0 E w H) E1 (recSt st1 id r1 .busy r1.pending) a1 (w1.putObj b (.loop { l1 with state := .busy })) := by rw [← hpend]; exact hs1'
  exact hB.wp (r := some b) (fun h => by cases h) hs1'' hR
/-- A round that ends. -/
theorem round_of_code {H : List Ob} {id : Nat} {args : List DV} {pins : List Pin} {r r1 r2 : Rec} {st1 st2 : St} {ex : Exit} {j : Option Code} (n : Nat) (scr : List Nat) (hid : H[id]? = some (.loop r)) (hpin : pinned pins id = true) (hg : ghosts pins = [])
    (hA : CodeOK P r.assign (roundSt r args H pins) .normal st1) (hp1 : st1.pins = pins) (h1 : st1.heap[id]? = some (.loop r1)) (hr1 : r1.state = .ready)
    (hB : CodeOK P r.body (recSt st1 id r1 .busy r1.pending) ex st2) (hp2 : st2.pins = pins) (h2 : st2.heap[id]? = some (.loop r2)) (hj : jumpOf ex = some j)
    (hscr : (List.range n).all (fun i => pinned pins i || scr.contains i) = true) :
    RoundE P H id args (.returned (.bool j.isNone)) (((recSt st2 id r2 (if j.isNone then .ready else .done) j).heap.take n).map (Ob.scrub fun i => n ≤ i)) (fun i => scr.contains i) := by
  intro E w b l vs hH hm hl hfn ha hsz
  refine round_walk hid hpin hg hA hp1 h1 hr1 hB hH hm hl hfn ha hsz fun E2 a2 w2 hs2 => ?_
  have hm2 : E2.mu id = .pointer (some ⟨b, 0, none⟩) := (hs2.pins id (by rw [hp2]; exact hpin)).trans hm
  obtain ⟨l2, hl2, _⟩ := rec_at hs2 h2 hm2
  have fin : ∃ v w', (Instr.endRound b j).run P w2 = .ok v w' ∧ ∃ E', Ending.returned v = .returned (.bool j.isNone) ∧ HeapRel E' w' (((recSt st2 id r2 (if j.isNone then .ready else .done) j).heap.take n).map (Ob.scrub fun i => n ≤ i)) ∧ Frm E E' w w' H (((recSt st2 id r2 (if j.isNone then .ready else .done) j).heap.take n).map (Ob.scrub fun i => n ≤ i)) (fun i => scr.contains i) := by
    refine ⟨_, _, run_endRound j hl2, ?_⟩
    obtain ⟨E1, _, hh, hf⟩ := frame_out n scr (hs2.setRec h2 hm2 hl2 (if j.isNone then .ready else .done) j) (show st2.pins = pins from hp2) hscr
    exact ⟨E1, rfl, hh, hf⟩
  unfold jumpOf at hj
  split at hj <;> first
    | (obtain rfl := Option.some.inj hj; exact fin)
    | cases hj
/-- A round that panics. -/
theorem roundx_of_code {H : List Ob} {id : Nat} {args : List DV} {pins : List Pin} {r r1 : Rec} {st1 st2 : St} {ch : List PanicEntry} (n : Nat) (scr : List Nat) (hid : H[id]? = some (.loop r)) (hpin : pinned pins id = true) (hg : ghosts pins = [])
    (hA : CodeOK P r.assign (roundSt r args H pins) .normal st1) (hp1 : st1.pins = pins) (h1 : st1.heap[id]? = some (.loop r1)) (hr1 : r1.state = .ready)
    (hB : CodeOK P r.body (recSt st1 id r1 .busy r1.pending) (.panic ch) st2) (hp2 : st2.pins = pins)
    (hscr : (List.range n).all (fun i => pinned pins i || scr.contains i) = true) :
    RoundE P H id args (.panicked ch) ((st2.heap.take n).map (Ob.scrub fun i => n ≤ i)) (fun i => scr.contains i) := by
  intro E w b l vs hH hm hl hfn ha hsz
  refine round_walk hid hpin hg hA hp1 h1 hr1 hB hH hm hl hfn ha hsz fun E2 a2 w2 hs2 => ?_
  intro fn
  refine leaves_of (.done (by rw [hp2]; exact hg)) (fun E3 a3 w3 hs3 => ?_) E2 a2 w2 hs2
  obtain ⟨E1, _, hh, hf⟩ := frame_out n scr hs3 hp2 hscr
  exact ⟨E1, rfl, hh, hf⟩
end
end Go.FI
