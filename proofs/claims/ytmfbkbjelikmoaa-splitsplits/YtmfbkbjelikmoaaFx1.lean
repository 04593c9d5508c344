import Derived.Test.YtmfbkbjelikmoaaFi26
namespace Go.FI

/-! ### Small words for proofs by paths -/
theorem CodeB.to {fr : Bool} {P : Program} {c : Code} {st st1 st2 : St} {ex : Exit} (h : CodeB fr P c st ex st1) (e : st1 = st2) : CodeB fr P c st ex st2 := e ▸ h
theorem CodeB.frm {fr : Bool} {P : Program} {c : Code} {st0 st st1 : St} {ex : Exit} (h : CodeB fr P c st ex st1) (e : st0 = st) : CodeB fr P c st0 ex st1 := e ▸ h
theorem inR64 {n : Int} : inR .i64 n ↔ -9223372036854775808 ≤ n ∧ n ≤ 9223372036854775807 := Iff.rfl
theorem inR8 {n : Int} : inR .u8 n ↔ 0 ≤ n ∧ n ≤ 255 := Iff.rfl
theorem inR16 {n : Int} : inR .u16 n ↔ 0 ≤ n ∧ n ≤ 65535 := Iff.rfl
theorem inRu64 {n : Int} : inR .u64 n ↔ 0 ≤ n ∧ n ≤ 18446744073709551615 := Iff.rfl
theorem inRu32 {n : Int} : inR .u32 n ↔ 0 ≤ n ∧ n ≤ 4294967295 := Iff.rfl
theorem boolD {a b : Bool} : (DV.pd (PD.bool a) = DV.pd (PD.bool b)) ↔ a = b := by simp
theorem All_nil : All [] ↔ True := Iff.rfl
theorem All_cons {p : Prop} {ps : List Prop} : All (p :: ps) ↔ p ∧ All ps := Iff.rfl

/-- A row of bytes. -/
def bl (xs : List Int) : List (List PD) := xs.map fun x => [PD.int .u8 x]
abbrev nb (xs : List Int) : PD := .ds 1 (bl xs)
theorem bl_length (xs : List Int) : (bl xs).length = xs.length := by simp [bl]
theorem bl_take (xs : List Int) (n : Nat) : (bl xs).take n = bl (xs.take n) := by simp [bl]
theorem bl_drop (xs : List Int) (n : Nat) : (bl xs).drop n = bl (xs.drop n) := by simp [bl]
theorem bl_append (xs ys : List Int) : bl xs ++ bl ys = bl (xs ++ ys) := by simp [bl]
theorem bl_get (xs : List Int) (i : Nat) (x : Int) : (bl xs)[i]? = some [PD.int .u8 x] ↔ xs[i]? = some x := by simp [bl]
theorem bl_nil : bl [] = [] := rfl
theorem bl_one (x : Int) : [[PD.int .u8 x]] = bl [x] := rfl
theorem bl_inj {xs ys : List Int} : bl xs = bl ys ↔ xs = ys := by
  constructor
  · intro h
    have h' := congrArg (List.map fun r => match r with | [PD.int _ x] => x | _ => 0) h
    simpa [bl, Function.comp_def] using h'
  · rintro rfl; rfl
theorem dtt {c : Prop} [Decidable c] (h : c) : DV.pd (PD.bool (decide c)) = DV.pd (PD.bool true) := by rw [decide_eq_true h]
theorem dff {c : Prop} [Decidable c] (h : ¬ c) : DV.pd (PD.bool (decide c)) = DV.pd (PD.bool false) := by rw [decide_eq_false h]
theorem dnT {a b : Int} (h : a ≠ b) : DV.pd (PD.bool (a != b)) = DV.pd (PD.bool true) := by rw [bne_iff_ne.2 h]
theorem dnF {a b : Int} (h : a = b) : DV.pd (PD.bool (a != b)) = DV.pd (PD.bool false) := by rw [h, bne_self_eq_false]
theorem dlb (xs : List UInt8) : DV.pd (PD.bool (xs.beq xs)) = DV.pd (PD.bool true) := by
  have h : (xs == xs) = true := beq_self_eq_true xs
  rw [show xs.beq xs = true from h]
theorem dbb {b c : Bool} (h : b = c) : DV.pd (PD.bool b) = DV.pd (PD.bool c) := by rw [h]
theorem rdb {xs : List Int} {i x : Int} (h0 : 0 ≤ i) (h : xs[i.toNat]? = some x) : 0 ≤ i ∧ i < ((bl xs).length : Int) ∧ (bl xs)[i.toNat]? = some [PD.int .u8 x] := by
  have hl := (List.getElem?_eq_some_iff.1 h).1
  exact ⟨h0, by rw [bl_length]; omega, (bl_get _ _ _).2 h⟩
theorem bcutT (xs : List Int) (n : Nat) : DV.pd (PD.ds 1 (List.take n (bl xs))) = DV.pd (PD.ds 1 (bl (List.take n xs))) := by rw [bl_take]
theorem bcutD (xs : List Int) (n : Nat) : DV.pd (PD.ds 1 (List.drop n (bl xs))) = DV.pd (PD.ds 1 (bl (List.drop n xs))) := by rw [bl_drop]
theorem bcutTD (xs : List Int) (n m : Nat) : DV.pd (PD.ds 1 (List.drop m (List.take n (bl xs)))) = DV.pd (PD.ds 1 (bl (List.drop m (List.take n xs)))) := by rw [bl_take, bl_drop]
theorem bcutTi (xs : List Int) (n : Nat) : DV.pd (PD.ds 1 (List.take (n : Int).toNat (bl xs))) = DV.pd (PD.ds 1 (bl (List.take n xs))) := by rw [Int.toNat_natCast, bl_take]
theorem bcutDi (xs : List Int) (n : Nat) : DV.pd (PD.ds 1 (List.drop (n : Int).toNat (bl xs))) = DV.pd (PD.ds 1 (bl (List.drop n xs))) := by rw [Int.toNat_natCast, bl_drop]
theorem dii {k : IntKind} {a b : Int} (h : a = b) : DV.pd (PD.int k a) = DV.pd (PD.int k b) := by rw [h]
theorem i64max : IntKind.i64.max = 9223372036854775807 := by decide
theorem len_dt (xs : List Int) (n m : Nat) : (List.drop m (List.take n xs)).length = min n xs.length - m := by rw [List.length_drop, List.length_take]
theorem len_d (xs : List Int) (m : Nat) : (List.drop m xs).length = xs.length - m := List.length_drop
theorem len_t (xs : List Int) (n : Nat) : (List.take n xs).length = min n xs.length := List.length_take
/-! ### Reading, lengths, bytes -/
/-- The int at a place. -/
def gi (xs : List Int) (j : Int) : Int := xs.getD j.toNat 0
abbrev bl_el (xs : List Int) (j : Int) : List PD := [PD.int .u8 (gi xs j)]
theorem gi_get {xs : List Int} {i : Int} (h0 : 0 ≤ i) (h : i < xs.length) : xs[i.toNat]? = some (gi xs i) := by
  have hlt : i.toNat < xs.length := by omega
  simp [gi, List.getD_eq_getElem?_getD, List.getElem?_eq_getElem hlt]
theorem bl_rd {xs : List Int} {i : Int} (h0 : 0 ≤ i) (h : i < xs.length) : 0 ≤ i ∧ i < ((bl xs).length : Int) ∧ (bl xs)[i.toNat]? = some (bl_el xs i) :=
  ⟨h0, by rw [bl_length]; omega, (bl_get _ _ _).2 (gi_get h0 h)⟩
/-- Bytes. -/
def Byt (xs : List Int) : Prop := ∀ x ∈ xs, 0 ≤ x ∧ x ≤ 255
theorem Byt.at {xs : List Int} (h : Byt xs) (j : Int) : 0 ≤ gi xs j ∧ gi xs j ≤ 255 := by
  unfold gi
  rw [List.getD_eq_getElem?_getD]
  cases hx : xs[j.toNat]? with
  | none => simp
  | some x => exact h x (List.mem_of_getElem? hx)
theorem Byt.take {xs : List Int} (h : Byt xs) (n : Nat) : Byt (xs.take n) := fun x hx => h x (List.mem_of_mem_take hx)
theorem Byt.drop {xs : List Int} (h : Byt xs) (n : Nat) : Byt (xs.drop n) := fun x hx => h x (List.mem_of_mem_drop hx)
theorem Byt.app {xs ys : List Int} (h : Byt xs) (h' : Byt ys) : Byt (xs ++ ys) := fun x hx => by
  rcases List.mem_append.1 hx with hx | hx
  · exact h x hx
  · exact h' x hx
theorem Byt.nil : Byt [] := fun x hx => by cases hx
theorem lenT {α : Type} (xs : List α) (n : Nat) : (List.take n xs).length = min n xs.length := List.length_take
theorem lenD {α : Type} (xs : List α) (n : Nat) : (List.drop n xs).length = xs.length - n := List.length_drop
theorem lenA {α : Type} (xs ys : List α) : (xs ++ ys).length = xs.length + ys.length := List.length_append
theorem lenC {α : Type} (x : α) (xs : List α) : (x :: xs).length = xs.length + 1 := rfl
theorem lenR {α : Type} (n : Nat) (x : α) : (List.replicate n x).length = n := List.length_replicate
theorem lenS {α : Type} (xs : List α) (n : Nat) (x : α) : (xs.set n x).length = xs.length := List.length_set
theorem lenM {α β : Type} (f : α → β) (xs : List α) : (xs.map f).length = xs.length := List.length_map f
theorem dtt' {c : Prop} [Decidable c] (h : c) : DV.pd (PD.bool (decide c)) = DV.pd (PD.bool true) := by rw [decide_eq_true h]
theorem deT {a b : Int} (h : a = b) : DV.pd (PD.bool (a == b)) = DV.pd (PD.bool true) := by rw [beq_iff_eq.2 h]
theorem deF {a b : Int} (h : ¬ a = b) : DV.pd (PD.bool (a == b)) = DV.pd (PD.bool false) := by rw [beq_eq_false_iff_ne.2 h]
/-- What is said of a datum says less than what is known of it. -/
def W (p q : PD) : Prop := ∀ (I : Nat → Prop) (w : World) (v : Value), p.rel I w v → q.rel I w v
inductive WL : List PD → List PD → Prop
  | nil : WL [] []
  | cons {p q : PD} {ps qs : List PD} (h : W p q) (t : WL ps qs) : WL (p :: ps) (q :: qs)
theorem W.refl {p : PD} : W p p := fun _ _ _ h => h
theorem W.nils {sz : Nat} : W .nils (.ds sz []) := fun _ _ _ h => PD.nils_ds h
theorem WL.refl : ∀ {ps : List PD}, WL ps ps
  | [] => .nil
  | _ :: _ => .cons .refl WL.refl
theorem WL.rel {ps qs : List PD} (h : WL ps qs) {I : Nat → Prop} {w : World} : ∀ {vs : List Value}, relL I w ps vs → relL I w qs vs := by
  induction h with
  | nil => exact fun h => h
  | cons h t ih =>
    intro vs hr
    simp only [relL] at hr ⊢
    obtain ⟨v, vs', e, hv, hx⟩ := hr
    exact ⟨v, vs', e, h _ _ _ hv, ih hx⟩
theorem W.agg {ps qs : List PD} (h : WL ps qs) : W (.agg ps) (.agg qs) := fun I w v hr => by
  simp only [PD.rel] at hr ⊢
  obtain ⟨vs, e, hx⟩ := hr
  exact ⟨vs, e, h.rel hx⟩
theorem W.tup {ps qs : List PD} (h : WL ps qs) : W (.tup ps) (.tup qs) := fun I w v hr => by
  simp only [PD.rel] at hr ⊢
  obtain ⟨vs, e, hx⟩ := hr
  exact ⟨vs, e, h.rel hx⟩
theorem CallP.args {P : Program} {f : FuncId} {ps qs : List PD} {r : PD} (h : CallP P f qs r) (hw : WL ps qs) : CallP P f ps r := fun I w vs hI ha => h I w vs hI (hw.rel ha)
theorem CallP.res {P : Program} {f : FuncId} {ps : List PD} {r r' : PD} (h : CallP P f ps r) (hw : W r r') : CallP P f ps r' := h.weak hw
theorem rdk {es : List (List PD)} {i : Int} {e : List PD} (h0 : 0 ≤ i) (h : es[i.toNat]? = some e) : 0 ≤ i ∧ i < (es.length : Int) ∧ es[i.toNat]? = some e := by
  have := (List.getElem?_eq_some_iff.1 h).1
  exact ⟨h0, by omega, h⟩
theorem dNT {b : Bool} (h : DV.pd (PD.bool b) = DV.pd (PD.bool false)) : DV.pd (PD.bool (!b)) = DV.pd (PD.bool true) := by injection h with h; injection h with h; rw [h]; rfl
theorem dNF {b : Bool} (h : DV.pd (PD.bool b) = DV.pd (PD.bool true)) : DV.pd (PD.bool (!b)) = DV.pd (PD.bool false) := by injection h with h; injection h with h; rw [h]; rfl
/-- An int. -/
abbrev ni (n : Int) : PD := .int .i64 n
abbrev tt : Post := .eq (.pd (.bool true))
abbrev ff : Post := .eq (.pd (.bool false))
abbrev rb (x : Int) : Hint := .rd [PD.int .u8 x]
abbrev bx (b : Bool) : Post := .eq (.pd (.bool b))
end Go.FI
