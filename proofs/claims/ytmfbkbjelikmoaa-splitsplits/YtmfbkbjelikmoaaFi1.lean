import Derived.Below
import Derived.Maps.AppendAt
import Derived.Laws.AppendOwnNone
import Derived.Laws.CopyRow
import Derived.KernelRfl
namespace Go.FI
open Go.RowKit

/-- Pure data: what is read and never written again. -/
inductive PD where
  | int (k : IntKind) (n : Int)
  | bool (b : Bool)
  | str (s : ByteArray)
  | nilp | nilm | nili | nilf | nils
  | fn (f : FuncId)
  | iface (t : TypeId) (p : PD)
  | agg (cs : List PD)
  | tup (cs : List PD)
  | ds (sz : Nat) (es : List (List PD))

section
variable (I : Nat → Prop) (w : World)
mutual
def PD.rel : PD → Value → Prop
  | .int k n, v => v = .int k n
  | .bool b, v => v = .bool b
  | .str s, v => v = .string s
  | .nilp, v => v = .pointer none
  | .nilm, v => v = .map none
  | .nili, v => v = .nilIface
  | .nilf, v => v = .nilFunc
  | .nils, v => v = .slice none 0 0
  | .fn f, v => v = .func (.func f) #[] #[]
  | .iface t p, v => ∃ x, v = .iface t x ∧ PD.rel p x
  | .agg cs, v => ∃ vs : Array Value, v = .agg vs ∧ relL cs vs.toList
  | .tup cs, v => ∃ vs : Array Value, v = .tuple vs ∧ relL cs vs.toList
  | .ds sz es, v => ∃ A c, v = .slice A es.length c ∧ es.length ≤ c ∧ (∀ e ∈ es, e.length = sz) ∧
      (es ≠ [] → ∃ b o, A = some ⟨b, o, none⟩ ∧ I b ∧ relRow b o es)
  termination_by structural p => p
def relL : List PD → List Value → Prop
  | [], vs => vs = []
  | p :: ps, vs => ∃ v vs', vs = v :: vs' ∧ PD.rel p v ∧ relL ps vs'
  termination_by structural ps => ps
def relAt (b : Nat) : Nat → List PD → Prop
  | _, [] => True
  | o, p :: ps => (∃ v, w.cell? ⟨b, o, none⟩ = some v ∧ v.oneCell' = true ∧ PD.rel p v) ∧ relAt b (o + 1) ps
  termination_by structural _ ps => ps
def relRow (b : Nat) : Nat → List (List PD) → Prop
  | _, [] => True
  | o, e :: es => relAt b o e ∧ relRow b (o + e.length) es
  termination_by structural _ es => es
end
end

/-- What is read stays: the blocks of I are as they were. -/
def Keep (I : Nat → Prop) (w : World) (I' : Nat → Prop) (w' : World) : Prop := ∀ b, I b → I' b ∧ w'.heap[b]? = w.heap[b]?

section
variable {I I' : Nat → Prop} {w w' : World}
mutual
theorem PD.rel_keep (h : Keep I w I' w') : ∀ (p : PD) (v : Value), p.rel I w v → p.rel I' w' v
  | .int _ _, _, hr | .bool _, _, hr | .str _, _, hr | .nilp, _, hr | .nilm, _, hr | .nili, _, hr | .nilf, _, hr | .nils, _, hr | .fn _, _, hr => by simpa [PD.rel] using hr
  | .iface t p, v, hr => by
    simp only [PD.rel] at hr ⊢
    obtain ⟨x, e, hx⟩ := hr
    exact ⟨x, e, PD.rel_keep h p x hx⟩
  | .agg cs, v, hr => by
    simp only [PD.rel] at hr ⊢
    obtain ⟨vs, e, hx⟩ := hr
    exact ⟨vs, e, relL_keep h cs _ hx⟩
  | .tup cs, v, hr => by
    simp only [PD.rel] at hr ⊢
    obtain ⟨vs, e, hx⟩ := hr
    exact ⟨vs, e, relL_keep h cs _ hx⟩
  | .ds sz es, v, hr => by
    simp only [PD.rel] at hr ⊢
    obtain ⟨A, c, e, hc, hs, hx⟩ := hr
    refine ⟨A, c, e, hc, hs, fun hne => ?_⟩
    obtain ⟨b, o, ea, hb, hrow⟩ := hx hne
    exact ⟨b, o, ea, (h b hb).1, relRow_keep h b (h b hb).2 o es hrow⟩
theorem relL_keep (h : Keep I w I' w') : ∀ (ps : List PD) (vs : List Value), relL I w ps vs → relL I' w' ps vs
  | [], vs, hr => by simpa [relL] using hr
  | p :: ps, vs, hr => by
    simp only [relL] at hr ⊢
    obtain ⟨v, vs', e, hv, hps⟩ := hr
    exact ⟨v, vs', e, PD.rel_keep h p v hv, relL_keep h ps vs' hps⟩
theorem relAt_keep (h : Keep I w I' w') (b : Nat) (hb : w'.heap[b]? = w.heap[b]?) : ∀ (o : Nat) (ps : List PD), relAt I w b o ps → relAt I' w' b o ps
  | _, [], _ => by simp [relAt]
  | o, p :: ps, hr => by
    simp only [relAt] at hr ⊢
    obtain ⟨⟨v, hc, h1, hv⟩, hps⟩ := hr
    exact ⟨⟨v, (World.cell?_of_block (a := ⟨b, o, none⟩) hb).trans hc, h1, PD.rel_keep h p v hv⟩, relAt_keep h b hb (o + 1) ps hps⟩
theorem relRow_keep (h : Keep I w I' w') (b : Nat) (hb : w'.heap[b]? = w.heap[b]?) : ∀ (o : Nat) (es : List (List PD)), relRow I w b o es → relRow I' w' b o es
  | _, [], _ => by simp [relRow]
  | o, e :: es, hr => by
    simp only [relRow] at hr ⊢
    exact ⟨relAt_keep h b hb o e hr.1, relRow_keep h b hb (o + e.length) es hr.2⟩
end
end

/-! ### Lists of related values -/
section
variable {I : Nat → Prop} {w : World}
theorem relL_length : ∀ {ps : List PD} {vs : List Value}, relL I w ps vs → vs.length = ps.length
  | [], _, h => by simp only [relL] at h; simp [h]
  | _ :: ps, _, h => by
    simp only [relL] at h
    obtain ⟨v, vs', rfl, _, h'⟩ := h
    simp [relL_length h']
theorem relL_append : ∀ {ps qs : List PD} {vs us : List Value}, relL I w ps vs → relL I w qs us → relL I w (ps ++ qs) (vs ++ us)
  | [], _, _, _, h, h' => by simp only [relL] at h; simpa [h] using h'
  | _ :: ps, _, _, _, h, h' => by
    simp only [relL] at h
    obtain ⟨v, vs', rfl, hv, h''⟩ := h
    simp only [List.cons_append, relL]
    exact ⟨v, _, rfl, hv, relL_append h'' h'⟩
theorem relL_append_inv : ∀ {ps qs : List PD} {vs : List Value}, relL I w (ps ++ qs) vs → ∃ us ws, vs = us ++ ws ∧ relL I w ps us ∧ relL I w qs ws
  | [], _, vs, h => ⟨[], vs, rfl, by simp [relL], by simpa using h⟩
  | _ :: ps, _, _, h => by
    simp only [List.cons_append, relL] at h
    obtain ⟨v, vs', rfl, hv, h'⟩ := h
    obtain ⟨us, ws, rfl, h1, h2⟩ := relL_append_inv h'
    exact ⟨v :: us, ws, rfl, by simp only [relL]; exact ⟨v, us, rfl, hv, h1⟩, h2⟩
theorem relL_get : ∀ {ps : List PD} {vs : List Value} (i : Nat) (p : PD), relL I w ps vs → ps[i]? = some p → ∃ v, vs[i]? = some v ∧ p.rel I w v
  | [], _, _, _, _, hi => by simp at hi
  | _ :: ps, _, i, p, h, hi => by
    simp only [relL] at h
    obtain ⟨v, vs', rfl, hv, h'⟩ := h
    match i with
    | 0 => simp at hi; subst hi; exact ⟨v, rfl, hv⟩
    | i + 1 => exact relL_get i p h' (by simpa using hi)
theorem relL_set : ∀ {ps : List PD} {vs : List Value} (i : Nat) (p : PD) (u : Value), relL I w ps vs → p.rel I w u → relL I w (ps.set i p) (vs.set i u)
  | [], _, _, _, _, h, _ => by simp only [relL] at h; simp [h, relL]
  | _ :: ps, _, i, p, u, h, hu => by
    simp only [relL] at h
    obtain ⟨v, vs', rfl, hv, h'⟩ := h
    match i with
    | 0 => simp only [List.set_cons_zero, relL]; exact ⟨u, vs', rfl, hu, h'⟩
    | i + 1 => simp only [List.set_cons_succ, relL]; exact ⟨v, _, rfl, hv, relL_set i p u h' hu⟩
theorem relL_take : ∀ {ps : List PD} {vs : List Value} (n : Nat), relL I w ps vs → relL I w (ps.take n) (vs.take n)
  | [], _, _, h => by simp only [relL] at h; simp [h, relL]
  | _ :: ps, _, n, h => by
    simp only [relL] at h
    obtain ⟨v, vs', rfl, hv, h'⟩ := h
    match n with
    | 0 => simp [relL]
    | n + 1 => simp only [List.take_succ_cons, relL]; exact ⟨v, _, rfl, hv, relL_take n h'⟩
theorem relL_drop : ∀ {ps : List PD} {vs : List Value} (n : Nat), relL I w ps vs → relL I w (ps.drop n) (vs.drop n)
  | [], _, _, h => by simp only [relL] at h; simp [h, relL]
  | _ :: ps, _, n, h => by
    have h0 := h
    simp only [relL] at h
    obtain ⟨v, vs', rfl, hv, h'⟩ := h
    match n with
    | 0 => exact h0
    | n + 1 => simpa using relL_drop n h'
theorem relAt_get : ∀ {ps : List PD} {b o : Nat} (i : Nat) (p : PD), relAt I w b o ps → ps[i]? = some p → ∃ v, w.cell? ⟨b, o + i, none⟩ = some v ∧ v.oneCell' = true ∧ p.rel I w v
  | [], _, _, _, _, _, hi => by simp at hi
  | _ :: ps, b, o, i, p, h, hi => by
    simp only [relAt] at h
    match i with
    | 0 => simp at hi; subst hi; exact h.1
    | i + 1 =>
      obtain ⟨v, hv⟩ := relAt_get (b := b) (o := o + 1) i p h.2 (by simpa using hi)
      exact ⟨v, by rw [show o + (i + 1) = o + 1 + i by omega]; exact hv⟩
theorem relAt_drop : ∀ {ps : List PD} {b o : Nat} (n : Nat), relAt I w b o ps → relAt I w b (o + n) (ps.drop n)
  | [], _, _, _, _ => by simp [relAt]
  | _ :: ps, b, o, n, h => by
    match n with
    | 0 => exact h
    | n + 1 =>
      simp only [relAt] at h
      have := relAt_drop (b := b) (o := o + 1) n h.2
      rw [show o + (n + 1) = o + 1 + n by omega]
      simpa using this
theorem relAt_take : ∀ {ps : List PD} {b o : Nat} (n : Nat), relAt I w b o ps → relAt I w b o (ps.take n)
  | [], _, _, _, _ => by simp [relAt]
  | _ :: ps, b, o, n, h => by
    match n with
    | 0 => simp [relAt]
    | n + 1 =>
      simp only [relAt, List.take_succ_cons] at h ⊢
      exact ⟨h.1, relAt_take n h.2⟩
/-- The cells from an address on, as a list of values. -/
theorem relAt_cells : ∀ {ps : List PD} {b o : Nat}, relAt I w b o ps → ∃ vs : List Value, relL I w ps vs ∧ (∀ j v, vs[j]? = some v → w.cell? ⟨b, o + j, none⟩ = some v) ∧ ∀ u ∈ vs, u.oneCell' = true
  | [], _, _, _ => ⟨[], by simp [relL], by simp, by simp⟩
  | p :: ps, b, o, h => by
    simp only [relAt] at h
    obtain ⟨⟨v, hc, h1, hv⟩, h'⟩ := h
    obtain ⟨vs, h2, h3, h4⟩ := relAt_cells h'
    refine ⟨v :: vs, by simp only [relL]; exact ⟨v, vs, rfl, hv, h2⟩, fun j u hj => ?_, fun u hu => ?_⟩
    · match j with
      | 0 => simp at hj; subst hj; exact hc
      | j + 1 => rw [show o + (j + 1) = o + 1 + j by omega]; exact h3 j u (by simpa using hj)
    · rcases List.mem_cons.1 hu with rfl | hu
      · exact h1
      · exact h4 u hu
theorem relAt_of_cells : ∀ {ps : List PD} {vs : List Value} {b o : Nat}, relL I w ps vs → (∀ j v, vs[j]? = some v → w.cell? ⟨b, o + j, none⟩ = some v) → (∀ u ∈ vs, u.oneCell' = true) → relAt I w b o ps
  | [], _, _, _, _, _, _ => by simp [relAt]
  | p :: ps, _, b, o, h, hc, h1 => by
    simp only [relL] at h
    obtain ⟨v, vs', rfl, hv, h'⟩ := h
    simp only [relAt]
    refine ⟨⟨v, by simpa using hc 0 v rfl, h1 v (by simp), hv⟩, relAt_of_cells h' (fun j u hj => ?_) (fun u hu => h1 u (by simp [hu]))⟩
    rw [show o + 1 + j = o + (j + 1) by omega]
    exact hc (j + 1) u (by simpa using hj)
theorem relRow_flat : ∀ {es : List (List PD)} {b o : Nat}, relRow I w b o es ↔ relAt I w b o es.flatten
  | [], _, _ => by simp [relRow, relAt]
  | e :: es, b, o => by
    simp only [relRow, List.flatten_cons]
    rw [relRow_flat]
    constructor
    · rintro ⟨h1, h2⟩
      obtain ⟨vs, a1, a2, a3⟩ := relAt_cells h1
      obtain ⟨us, b1, b2, b3⟩ := relAt_cells h2
      refine relAt_of_cells (relL_append a1 b1) (fun j v hj => ?_) (fun u hu => ?_)
      · rw [List.getElem?_append] at hj
        split at hj
        · exact a2 j v hj
        · rename_i hlt
          have hl := relL_length a1
          have := b2 _ v hj
          rw [hl] at this
          rwa [show o + e.length + (j - e.length) = o + j by omega] at this
      · rcases List.mem_append.1 hu with h | h
        · exact a3 u h
        · exact b3 u h
    · intro h
      refine ⟨by simpa using relAt_take e.length h, by simpa using relAt_drop e.length h⟩
end
end Go.FI
