import Derived.Test.YtmfbkbjelikmoaaFi23
import Derived.RangeFuncIn
namespace Go.FI
open Go.RowKit

/-! ### One round of a range over a function -/
def setP : List (Tmp × DV) → List DV → List DV
  | [], ts => ts
  | (t, d) :: r, ts => setP r (ts.set t d)
theorem setP_rel {E : Env} {w : World} : ∀ (ps : List Tmp) (ds : List DV) (vs : List Value) (ts : List DV) (tmps : Array Value), drelL E w ts tmps.toList → drelL E w ds vs → ps.length = ds.length →
    drelL E w (setP (ps.zip ds) ts) ((ps.zip vs).foldl (fun (t : Array Value) (x : Tmp × Value) => t.setIfInBounds x.1 x.2) tmps).toList
  | [], _, _, ts, tmps, ht, _, _ => by simpa [setP] using ht
  | p :: ps, [], _, _, _, _, _, hl => by simp at hl
  | p :: ps, d :: ds, vs, ts, tmps, ht, hd, hl => by
    simp only [drelL] at hd
    obtain ⟨v, vs', rfl, hv, hd'⟩ := hd
    simp only [List.zip_cons_cons, setP, List.foldl_cons]
    refine setP_rel ps ds vs' (ts.set p d) (tmps.setIfInBounds p v) ?_ hd' (by simpa using hl)
    rw [Array.toList_setIfInBounds]
    exact drelL_set p d v ht hv
/-- The state in which a round begins. -/
def roundSt (r : Rec) (args : List DV) (H : List Ob) (pins : List Pin) : St := ⟨setP (r.params.zip args) r.tmps, H, pins⟩
theorem round_entry {E : Env} {w : World} {H : List Ob} {id : Nat} {r : Rec} {b : Nat} {l : Loop} {args : List DV} {vs : Array Value} {pins : List Pin} (hg : ghosts pins = []) (hH : HeapRel E w H) (hid : H[id]? = some (.loop r)) (hm : E.mu id = .pointer (some ⟨b, 0, none⟩)) (hl : w.heap[b]? = some (.loop l))
    (ha : drelL E w args vs.toList) (hsz : vs.size = l.params.size) :
    StRel (ctx0 E w H) E (roundSt r args H pins) { tmps := (l.params.zip vs).foldl (fun tmps (t, a) => tmps.setIfInBounds t a) l.tmps, defers := [] } w := by
  obtain ⟨b', l', hm', hl', ht, _, _, h4, _, _, _⟩ := hH.ob id _ hid
  obtain rfl : b = b' := by rw [hm] at hm'; injection hm' with h; injection h with h; injection h
  obtain rfl : l = l' := by rw [hl] at hl'; injection hl' with h; injection h
  refine ⟨?_, hg, hH, ⟨rfl, rfl, rfl, Nat.le_refl _, fun _ _ _ => rfl, fun b h => .inl h, fun b h => .inl h, fun i x b hx hl hb => .inr ⟨i, x, hx, hl, hb⟩, fun _ h => h⟩, fun _ _ => rfl⟩
  have hlen := drelL_length ha
  have := setP_rel r.params args vs.toList r.tmps l.tmps ht ha (by rw [← h4]; simp; simp at hlen; omega)
  simp only [roundSt]
  rw [← Array.foldl_toList, Array.toList_zip, h4]
  exact this
end Go.FI
