import Derived.Test.YtmfbkbjelikmoaaFi22
import Derived.RangeFuncRecord
import Derived.RangeFuncOwn
namespace Go.FI
open Go.RowKit

/-! ### The record of a range over a function -/
section
variable {P : Program} {X : Ctx} {E : Env} {st : St} {a : Act} {w : World}
/-- The record's state and pending jump are turned. -/
theorem StRel.setRec (hs : StRel X E st a w) {id b : Nat} {r : Rec} {l : Loop} (hH : st.heap[id]? = some (.loop r)) (hm : E.mu id = .pointer (some ⟨b, 0, none⟩)) (hl : w.heap[b]? = some (.loop l)) (s : LoopState) (p : Option Code) :
    StRel X E ⟨st.tmps, putOb st.heap id (.loop { r with state := s, pending := p }), st.pins⟩ a (w.putObj b (.loop { l with state := s, pending := p })) := by
  have hlt : b < w.heap.size := (Array.getElem?_eq_some_iff.1 hl).1
  have hblk : blk (E.mu id) = some b := by rw [hm]; rfl
  have hg : w.grownBy (w.putObj b (.loop { l with state := s, pending := p })) (blk (E.mu id)) := by rw [hblk]; exact grownBy_putObj' w b _
  refine StRel.inplace (ts := st.tmps) (H := st.heap) (ps := st.pins) (old := .loop r) hs hH rfl hg ?_
  obtain ⟨b', l', hm', hl', ht, _, _, h4, h5, h6, h7⟩ := hs.heap.ob id _ hH
  obtain rfl : b = b' := by rw [hm] at hm'; injection hm' with h; injection h with h; injection h
  obtain rfl : l = l' := by rw [hl] at hl'; injection hl' with h; injection h
  have hmv : Moves E E w (w.putObj b (.loop { l with state := s, pending := p })) (fun _ => false) := ⟨fun _ h => h, fun c hc => World.putObj_heap_other (fun e => hs.heap.off id _ b hH rfl hblk (e ▸ hc)), fun _ _ => rfl⟩
  refine ⟨b, _, hm, World.putObj_heap_same hlt, ?_, rfl, rfl, h4, h5, h6, h7⟩
  simpa only [scrubs_none] using drelL_scrub hmv ht
end
end Go.FI
