import Derived.Test.YtmfbkbjelikmoaaFx1
import Derived.ProofKit
import Derived.OpenShut
namespace Go.FI
open Go.RowKit

/-! ### What can be read as data is data -/
inductive CT where
  | bool
  | int (k : IntKind)
  | str
  | sl (e : TypeId)
def repT : Nat → List CT → List CT
  | 0, _ => []
  | n + 1, l => l ++ repT n l
def flatFs (P : Program) (g : TypeId → Option (List CT)) : Nat → List Field → Option (List CT)
  | _, [] => some []
  | off, f :: fs => match Nat.beq f.offset off, g f.type with
    | true, some a => match Nat.beq a.length (P.cellsOf f.type), flatFs P g (off + a.length) fs with
      | true, some b => some (a ++ b)
      | _, _ => none
    | _, _ => none
def flatT (P : Program) : Nat → TypeId → Option (List CT)
  | 0, _ => none
  | n + 1, t => match P.underlying t with
    | some .bool => some [.bool]
    | some (.int k) => some [.int k]
    | some .string => some [.str]
    | some (.slice e) => some [.sl e]
    | some (.struct fs) => match flatFs P (flatT P n) 0 fs.toList with
      | some l => match Nat.beq l.length (P.cellsOf t) with
        | true => some l
        | false => none
      | none => none
    | some (.array m e) => match flatT P n e with
      | some l => match Nat.beq l.length (P.cellsOf e), Nat.beq (m * l.length) (P.cellsOf t) with
        | true, true => some (repT m l)
        | _, _ => none
      | none => none
    | _ => none
/-- Cells and their types. -/
def ctL (g : CT → PD → Prop) : List CT → List PD → Prop
  | [], ps => ps = []
  | c :: cs, ps => ∃ p ps', ps = p :: ps' ∧ g c p ∧ ctL g cs ps'
def ctOK (P : Program) : Nat → CT → PD → Prop
  | _, .bool, p => ∃ b, p = .bool b
  | _, .int k, p => ∃ n, p = .int k n ∧ inR k n
  | _, .str, p => ∃ s, p = .str s
  | 0, .sl _, _ => False
  | n + 1, .sl e, p => ∃ tys es, flatT P 20 e = some tys ∧ p = .ds tys.length es ∧ ∀ x ∈ es, ctL (ctOK P n) tys x
def okT (P : Program) : Nat → CT → Bool
  | _, .bool => true
  | _, .int _ => true
  | _, .str => true
  | 0, .sl _ => false
  | n + 1, .sl e => match flatT P 20 e with
    | some tys => Nat.beq tys.length (P.cellsOf e) && Nat.ble 1 tys.length && tys.all (okT P n)
    | none => false
theorem ctL_append {g : CT → PD → Prop} : ∀ {a b : List CT} {ps qs : List PD}, ctL g a ps → ctL g b qs → ctL g (a ++ b) (ps ++ qs)
  | [], _, _, _, h, h' => by simp only [ctL] at h; simpa [h] using h'
  | c :: a, _, _, _, h, h' => by
    simp only [ctL] at h
    obtain ⟨p, ps', rfl, hp, hx⟩ := h
    simp only [List.cons_append, ctL]
    exact ⟨p, _, rfl, hp, ctL_append hx h'⟩
theorem ctL_length {g : CT → PD → Prop} : ∀ {a : List CT} {ps : List PD}, ctL g a ps → ps.length = a.length
  | [], _, h => by simp only [ctL] at h; simp [h]
  | c :: a, _, h => by
    simp only [ctL] at h
    obtain ⟨p, ps', rfl, hp, hx⟩ := h
    simp [ctL_length hx]
section
variable {H : Type} {enc : TypeId × Value → H} {P : Program} {w : World} {sp : Nat → Bool} {held : Bool}
abbrev Rd (P : Program) (w : World) (n : Nat) (tys : List CT) (cs : List Value) : Prop :=
  ∃ ps, relL (fun b => b < w.heap.size) w ps cs ∧ ctL (ctOK P n) tys ps ∧ ∀ u ∈ cs, u.oneCell' = true
theorem Rd.append {n : Nat} {a b : List CT} {cs ds : List Value} (h : Rd P w n a cs) (h' : Rd P w n b ds) : Rd P w n (a ++ b) (cs ++ ds) := by
  obtain ⟨ps, h1, h2, h3⟩ := h
  obtain ⟨qs, k1, k2, k3⟩ := h'
  refine ⟨ps ++ qs, relL_append h1 k1, ctL_append h2 k2, fun u hu => ?_⟩
  rcases List.mem_append.1 hu with hu | hu
  · exact h3 u hu
  · exact k3 u hu
theorem Rd.nil {n : Nat} : Rd P w n [] [] := ⟨[], by simp [relL], by simp [ctL], by simp⟩
theorem mapM_cons_some {α β : Type} {f : α → Option β} {a : α} {l : List α} {ys : List β} (h : (a :: l).mapM f = some ys) : ∃ y ys', f a = some y ∧ l.mapM f = some ys' ∧ ys = y :: ys' := by
  rw [List.mapM_cons] at h
  cases ha : f a with
  | none => rw [ha] at h; cases h
  | some y =>
    rw [ha] at h
    cases hl : l.mapM f with
    | none => rw [hl] at h; cases h
    | some ys' =>
      rw [hl] at h
      exact ⟨y, ys', rfl, rfl, (Option.some.inj h).symm⟩
theorem read_fields {n : Nat} {g : TypeId → Option (List CT)} {tr : TypeId → List Value → Option (DataW H × List MemPlace)} (hg : ∀ t tys cs x, g t = some tys → (∀ c ∈ tys, okT P n c = true) → tr t cs = some x → Rd P w n tys cs) {cs : List Value} :
    ∀ (fs : List Field) (off : Nat) (tys : List CT), flatFs P g off fs = some tys → (∀ c ∈ tys, okT P n c = true) → (∀ f ∈ fs, ∃ x, tr f.type ((cs.drop f.offset).take (P.cellsOf f.type)) = some x) → Rd P w n tys ((cs.drop off).take tys.length)
  | [], off, tys, h, _, _ => by
    simp only [flatFs, Option.some.injEq] at h
    subst h
    simpa using Rd.nil
  | f :: fs, off, tys, h, hok, hm => by
    unfold flatFs at h
    split at h
    · rename_i a h1 h2
      split at h
      · rename_i b h3 h4
        obtain rfl := Option.some.inj h
        obtain rfl := Nat.eq_of_beq_eq_true h1
        have hlen := Nat.eq_of_beq_eq_true h3
        obtain ⟨y, hy⟩ := hm f (by simp)
        have k1 := hg f.type a _ y h2 (fun c hc => hok c (List.mem_append_left _ hc)) hy
        rw [← hlen] at k1
        have k2 := read_fields hg fs (f.offset + a.length) b h4 (fun c hc => hok c (List.mem_append_right _ hc)) (fun f' hf => hm f' (List.mem_cons_of_mem _ hf))
        have := k1.append k2
        have e : (cs.drop f.offset).take a.length ++ (cs.drop (f.offset + a.length)).take b.length = (cs.drop f.offset).take (a ++ b).length := by
          rw [List.length_append, List.take_add, List.drop_drop]
        rwa [e] at this
      · cases h
    · cases h
theorem read_array {n : Nat} {tys : List CT} {sz : Nat} (hsz : tys.length = sz) {tr : List Value → Option (DataW H × List MemPlace)} (hg : ∀ cs x, tr cs = some x → Rd P w n tys cs) {cs : List Value} :
    ∀ (m s : Nat), (∀ i, s ≤ i → i < s + m → ∃ x, tr ((cs.drop (i * sz)).take sz) = some x) → Rd P w n (repT m tys) ((cs.drop (s * sz)).take (m * sz))
  | 0, s, _ => by simpa [repT] using Rd.nil
  | m + 1, s, h => by
    obtain ⟨y, hy⟩ := h s (by omega) (by omega)
    have k1 := hg _ y hy
    have k2 := read_array hsz hg m (s + 1) (fun i h1 h2 => h i (by omega) (by omega))
    have := k1.append k2
    have e : (cs.drop (s * sz)).take sz ++ (cs.drop ((s + 1) * sz)).take (m * sz) = (cs.drop (s * sz)).take ((m + 1) * sz) := by
      rw [show (m + 1) * sz = sz + m * sz by rw [Nat.succ_mul]; omega, show (s + 1) * sz = s * sz + sz from Nat.succ_mul _ _, List.take_add, List.drop_drop]
    rwa [e] at this
theorem cells?_get {a : Addr} : ∀ {n s : Nat} {cs : List Value}, (List.range' s n).mapM (fun i => w.cell? (a.add i)) = some cs → cs.length = n ∧ ∀ j v, cs[j]? = some v → w.cell? (a.add (s + j)) = some v
  | 0, s, cs, h => by simp at h; subst h; simp
  | n + 1, s, cs, h => by
    rw [List.range'_succ] at h
    obtain ⟨y, ys, hy, hys, rfl⟩ := mapM_cons_some h
    obtain ⟨h1, h2⟩ := cells?_get hys
    refine ⟨by simp [h1], fun j v hj => ?_⟩
    match j with
    | 0 => simp at hj; subst hj; simpa using hy
    | j + 1 => rw [show s + (j + 1) = s + 1 + j by omega]; exact h2 j v (by simpa using hj)
theorem cell?_lt {a : Addr} {v : Value} (h : w.cell? a = some v) : a.block < w.heap.size ∧ a.spot = none := by
  unfold World.cell? at h
  split at h
  · rename_i c _ _ hb
    refine ⟨(Array.getElem?_eq_some_iff.1 hb).1, ?_⟩
    cases hs : a.spot with
    | none => rfl
    | some x => rw [hs] at h; simp at h
  · cases h
theorem read_row {n : Nat} {tys : List CT} {e : TypeId} {a : Addr} (hspot : a.spot = none) (hsz : tys.length = P.cellsOf e) (h1 : 1 ≤ tys.length) {tr : List Value → Option (DataW H × List MemPlace)} (hg : ∀ cs x, tr cs = some x → Rd P w n tys cs) :
    ∀ (m s : Nat), (∀ i, s ≤ i → i < s + m → ∃ x, (w.cells? 0 (a.add (i * P.cellsOf e)) (P.cellsOf e)).bind tr = some x) →
      ∃ es : List (List PD), es.length = m ∧ (∀ x ∈ es, ctL (ctOK P n) tys x) ∧ (es ≠ [] → a.block < w.heap.size ∧ relRow (fun b => b < w.heap.size) w a.block (a.off + s * P.cellsOf e) es)
  | 0, s, _ => ⟨[], rfl, by simp, by simp⟩
  | m + 1, s, h => by
    obtain ⟨y, hy⟩ := h s (by omega) (by omega)
    obtain ⟨es, k1, k2, k3⟩ := read_row hspot hsz h1 hg m (s + 1) (fun i h1 h2 => h i (by omega) (by omega))
    cases hc : w.cells? 0 (a.add (s * P.cellsOf e)) (P.cellsOf e) with
    | none => rw [hc] at hy; cases hy
    | some cs =>
      rw [hc] at hy
      obtain ⟨ps, r1, r2, r3⟩ := hg cs y hy
      have hcc : (List.range' 0 (P.cellsOf e)).mapM (fun i => w.cell? ((a.add (s * P.cellsOf e)).add i)) = some cs := by
        unfold World.cells? at hc
        split at hc
        · rwa [List.range_eq_range'] at hc
        · cases hc
      obtain ⟨c1, c2⟩ := cells?_get hcc
      have hl := relL_length r1
      have hpl := ctL_length r2
      have hblk : ∀ k (a : Addr), (a.add k).block = a.block := fun k a => by unfold Addr.add; split <;> rfl
      have hb : a.block < w.heap.size := by
        obtain ⟨v, hv⟩ : ∃ v, cs[0]? = some v := ⟨_, List.getElem?_eq_getElem (by omega)⟩
        have := (cell?_lt (c2 0 v hv)).1
        rw [hblk, hblk] at this
        exact this
      have hadd : a.spot = none → ∀ k, a.add k = ⟨a.block, a.off + k, none⟩ := fun hs k => by
        obtain ⟨b, o, sp⟩ := a
        simp only at hs
        subst hs
        exact add_at b o k
      refine ⟨ps :: es, by simp [k1], fun x hx => ?_, fun _ => ⟨hb, ?_⟩⟩
      · rcases List.mem_cons.1 hx with rfl | hx
        · exact r2
        · exact k2 x hx
      · simp only [relRow]
        have hat : relAt (fun b => b < w.heap.size) w a.block (a.off + s * P.cellsOf e) ps := by
          refine relAt_of_cells r1 (fun j v hj => ?_) r3
          have := c2 j v hj
          rw [hadd hspot, add_at] at this
          simpa using this
        refine ⟨hat, ?_⟩
        by_cases hne : es = []
        · subst hne; simp [relRow]
        · have := (k3 hne).2
          rwa [show a.off + (s + 1) * P.cellsOf e = a.off + s * P.cellsOf e + ps.length by rw [Nat.succ_mul, hpl, hsz]; omega] at this
theorem spot_none {e : TypeId} {a : Addr} (h1 : 1 ≤ P.cellsOf e) {tr : List Value → Option (DataW H × List MemPlace)} {x : DataW H × List MemPlace} (hy : (w.cells? 0 (a.add (0 * P.cellsOf e)) (P.cellsOf e)).bind tr = some x) : a.spot = none := by
  cases hc : w.cells? 0 (a.add (0 * P.cellsOf e)) (P.cellsOf e) with
  | none => rw [hc] at hy; cases hy
  | some cs =>
    have hcc : (List.range' 0 (P.cellsOf e)).mapM (fun i => w.cell? ((a.add (0 * P.cellsOf e)).add i)) = some cs := by
      unfold World.cells? at hc
      split at hc
      · rwa [List.range_eq_range'] at hc
      · cases hc
    obtain ⟨c1, c2⟩ := cells?_get hcc
    obtain ⟨v, hv⟩ : ∃ v, cs[0]? = some v := ⟨_, List.getElem?_eq_getElem (by omega)⟩
    have := (cell?_lt (c2 0 v hv)).2
    simpa [Addr.add] using this
theorem lit_int {k : IntKind} {n : Int} (h : (Lit.int k n).wf = true) : inR k n := by
  simp only [Lit.wf, Bool.and_eq_true, decide_eq_true_eq] at h
  exact h
theorem get_lt {α : Type} {l : List α} {i : Nat} (h : i < l.length) : ∃ x, l[i]? = some x := ⟨_, List.getElem?_eq_getElem h⟩
theorem read_cells : ∀ (fuel n d : Nat) (t : TypeId) (tys : List CT) (cs : List Value) (x : DataW H × List MemPlace), flatT P d t = some tys → (∀ c ∈ tys, okT P n c = true) → DataW.trod enc P w 0 sp held fuel t cs = some x → Rd P w n tys cs
  | 0, _, _, _, _, _, _, _, _, h => by simp [DataW.trod] at h
  | fuel + 1, n, 0, _, _, _, _, h, _, _ => by simp [flatT] at h
  | fuel + 1, n, d + 1, t, tys, cs, x, hf, hok, h => by
    unfold flatT at hf
    split at hf
    · rename_i hu
      obtain rfl := Option.some.inj hf
      obtain ⟨b, rfl, _⟩ := DataW.trod_bool hu h
      exact ⟨[.bool b], by simp [relL, PD.rel], by simp [ctL, ctOK], by simp [Value.oneCell']⟩
    · rename_i k hu
      obtain rfl := Option.some.inj hf
      obtain ⟨m, rfl, _, hw⟩ := DataW.trod_int hu h
      exact ⟨[.int k m], by simp [relL, PD.rel], by simp [ctL, ctOK, lit_int hw], by simp [Value.oneCell']⟩
    · rename_i hu
      obtain rfl := Option.some.inj hf
      obtain ⟨b, rfl, _, _⟩ := DataW.trod_string hu h
      exact ⟨[.str b], by simp [relL, PD.rel], by simp [ctL, ctOK], by simp [Value.oneCell']⟩
    · rename_i e hu
      obtain rfl := Option.some.inj hf
      have hoke := hok (.sl e) (by simp)
      cases n with
      | zero => simp [okT] at hoke
      | succ n =>
      unfold okT at hoke
      split at hoke
      case h_2 => cases hoke
      rename_i tys htys
      simp only [Bool.and_eq_true, List.all_eq_true] at hoke
      obtain ⟨⟨o1, o2⟩, o3⟩ := hoke
      have hsz := Nat.eq_of_beq_eq_true o1
      have hone := Nat.le_of_ble_eq_true o2
      rcases DataW.trod_slice hu h with ⟨rfl, _⟩ | ⟨a, len, cap, elems, rest, n', hn', rfl, _, _, hlc, _, hel, hget, _, _⟩
      · refine ⟨[.ds tys.length []], ?_, ?_, by simp [Value.oneCell']⟩
        · simp only [relL]
          exact ⟨_, [], rfl, PD.nils_ds (by simp only [PD.rel]), rfl⟩
        · simp only [ctL, ctOK]
          exact ⟨_, [], rfl, ⟨tys, [], htys, rfl, by simp⟩, rfl⟩
      · obtain rfl : fuel = n' := by omega
        have hg : ∀ cs x, DataW.trod enc P w 0 sp held fuel e cs = some x → Rd P w n tys cs := fun cs x hx => read_cells fuel n 20 e tys cs x htys o3 hx
        have hall : ∀ i, 0 ≤ i → i < 0 + len → ∃ x, (w.cells? 0 (a.add (i * P.cellsOf e)) (P.cellsOf e)).bind (DataW.trod enc P w 0 sp held fuel e) = some x := fun i _ hi => by
          obtain ⟨x, hx⟩ := get_lt (l := elems) (i := i) (by omega)
          exact ⟨x, (hget i (by omega)).trans hx⟩
        obtain ⟨es, k1, k2, k3⟩ : ∃ es : List (List PD), es.length = len ∧ (∀ x ∈ es, ctL (ctOK P n) tys x) ∧ (es ≠ [] → a.block < w.heap.size ∧ relRow (fun b => b < w.heap.size) w a.block a.off es ∧ a.spot = none) := by
          cases len with
          | zero => exact ⟨[], rfl, by simp, by simp⟩
          | succ len =>
            obtain ⟨x0, hx0⟩ := hall 0 (by omega) (by omega)
            have hs := spot_none (by omega) hx0
            obtain ⟨es, k1, k2, k3⟩ := read_row hs hsz hone hg (len + 1) 0 hall
            refine ⟨es, k1, k2, fun hne => ⟨(k3 hne).1, by simpa using (k3 hne).2, hs⟩⟩
        refine ⟨[.ds tys.length es], ?_, ?_, by simp [Value.oneCell']⟩
        · simp only [relL, PD.rel]
          refine ⟨_, [], rfl, ⟨some a, cap, by rw [k1], by omega, fun x hx => ctL_length (k2 x hx), fun hne => ?_⟩, rfl⟩
          obtain ⟨q1, q2, q3⟩ := k3 hne
          refine ⟨a.block, a.off, ?_, q1, q2⟩
          obtain ⟨b, o, sp⟩ := a
          simp only at q3
          rw [q3]
        · simp only [ctL, ctOK]
          exact ⟨_, [], rfl, ⟨tys, es, htys, rfl, k2⟩, rfl⟩
    · rename_i fs hu
      split at hf
      case h_2 => cases hf
      rename_i l hl
      split at hf
      case h_2 => cases hf
      rename_i hlen
      obtain rfl := Option.some.inj hf
      have hlen' := Nat.eq_of_beq_eq_true hlen
      obtain ⟨xs, n', hn', _, hcs, hxs, hget⟩ := DataW.trod_struct hu h
      obtain rfl : fuel = n' := by omega
      have := read_fields (n := n) (g := flatT P d) (tr := fun t cs => DataW.trod enc P w 0 sp held fuel t cs) (fun t tys cs x h1 h2 h3 => read_cells fuel n d t tys cs x h1 h2 h3) (cs := cs) fs.toList 0 l hl hok (fun f hfm => by
        obtain ⟨i, hi, hfi⟩ := List.getElem_of_mem hfm
        have hfi' : fs[i]? = some f := by rw [← hfi]; simp
        obtain ⟨x, hx⟩ := get_lt (l := xs) (i := i) (by simp at hi; omega)
        exact ⟨x, (hget i f hfi').trans hx⟩)
      rw [List.drop_zero, hlen', ← hcs, List.take_length] at this
      exact this
    · rename_i m e hu
      split at hf
      case h_2 => cases hf
      rename_i l hl
      split at hf
      case h_2 => cases hf
      rename_i h1 h2
      obtain rfl := Option.some.inj hf
      have hsz := Nat.eq_of_beq_eq_true h1
      have htot := Nat.eq_of_beq_eq_true h2
      obtain ⟨xs, n', hn', _, hcs, hxs, hget⟩ := DataW.trod_array hu h
      obtain rfl : fuel = n' := by omega
      by_cases h0 : m = 0
      · subst h0
        have : cs = [] := List.length_eq_zero_iff.1 (by rw [hcs, ← htot]; simp)
        subst this
        exact Rd.nil
      · have hokl : ∀ c ∈ l, okT P n c = true := fun c hc => hok c (by
          obtain ⟨m', rfl⟩ := Nat.exists_eq_succ_of_ne_zero h0
          simp only [repT]
          exact List.mem_append_left _ hc)
        have := read_array (n := n) hsz (tr := fun cs => DataW.trod enc P w 0 sp held fuel e cs) (fun cs x h3 => read_cells fuel n d e l cs x hl hokl h3) (cs := cs) m 0 (fun i _ hi => by
          obtain ⟨x, hx⟩ := get_lt (l := xs) (i := i) (by omega)
          exact ⟨x, (hget i (by omega)).trans hx⟩)
        rw [Nat.zero_mul, List.drop_zero, ← hsz, htot, ← hcs, List.take_length] at this
        exact this
    · cases hf
end
end Go.FI
