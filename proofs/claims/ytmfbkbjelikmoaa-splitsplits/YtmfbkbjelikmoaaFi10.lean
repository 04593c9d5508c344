import Derived.Test.YtmfbkbjelikmoaaFi9
namespace Go.FI
open Go.RowKit

/-- Cells are laid over others. -/
def cutL {α : Type} (xs : List α) (o : Nat) (ys : List α) : List α := xs.take o ++ ys ++ xs.drop (o + ys.length)
theorem cutL_eq (xs : List Value) (o : Nat) (ys : List Value) : cut xs o ys = cutL xs o ys := rfl
theorem cutL_one {α : Type} (xs : List α) (o : Nat) (y : α) (h : o < xs.length) : cutL xs o [y] = xs.set o y := by
  rw [List.set_eq_take_append_cons_drop, if_pos h]
  simp [cutL]
theorem take_cutL {α : Type} (xs ys : List α) (o n : Nat) (h : o + ys.length ≤ n) (hn : n ≤ xs.length) : (cutL xs o ys).take n = cutL (xs.take n) o ys := by
  unfold cutL
  rw [List.take_append, List.take_append, List.take_take]
  simp only [List.length_take, List.length_append]
  rw [Nat.min_eq_left (by omega : o ≤ xs.length), Nat.min_eq_right (by omega : o ≤ n), List.take_take, Nat.min_eq_left (by omega : o ≤ n), List.take_of_length_le (by omega : ys.length ≤ n - o), List.drop_take]
theorem cutL_length {α : Type} (xs : List α) (o : Nat) (ys : List α) (h : o + ys.length ≤ xs.length) : (cutL xs o ys).length = xs.length := by
  simp only [cutL, List.length_append, List.length_take, List.length_drop]
  omega
/-- One cell is set; more are laid over. -/
def putCells {α : Type} (xs : List α) (o : Nat) (ys : List α) : List α :=
  match ys with
  | [y] => xs.set o y
  | ys => cutL xs o ys
theorem putCells_eq {α : Type} (xs : List α) (o : Nat) (ys : List α) (h : o + ys.length ≤ xs.length) : putCells xs o ys = cutL xs o ys := by
  unfold putCells
  split
  · rw [cutL_one]; simp at h; omega
  · rfl

section
variable {P : Program} {X : Ctx} {E : Env} {st : St} {a : Act} {w : World}
theorem drelL_cut {ps qs : List DV} {vs us : List Value} (o : Nat) (h : drelL E w ps vs) (h' : drelL E w qs us) : drelL E w (cutL ps o qs) (cutL vs o us) := by
  unfold cutL
  rw [drelL_length h']
  exact drelL_append (drelL_append (drelL_take o h) h') (drelL_drop _ h)
theorem relL_cut {I : Nat → Prop} {ps qs : List PD} {vs us : List Value} (o : Nat) (h : relL I w ps vs) (h' : relL I w qs us) : relL I w (cutL ps o qs) (cutL vs o us) := by
  unfold cutL
  rw [relL_length h']
  exact relL_append (relL_append (relL_take o h) h') (relL_drop _ h)

/-! ### What one cell holds -/
def PD.one : PD → Bool
  | .agg _ | .tup _ => false
  | _ => true
def DV.one : DV → Bool
  | .pd p => p.one
  | .tup _ | .any => false
  | _ => true
theorem PD.one_rel {I : Nat → Prop} {p : PD} {v : Value} (h : p.one = true) (hr : p.rel I w v) : v.oneCell' = true ∧ v.cells = #[v] := by
  cases p <;> simp only [PD.one] at h <;> (try cases h) <;> simp only [PD.rel] at hr
  case iface => obtain ⟨x, rfl, _⟩ := hr; exact ⟨rfl, rfl⟩
  case ds => obtain ⟨A, c, rfl, _⟩ := hr; exact ⟨rfl, rfl⟩
  all_goals (subst hr; exact ⟨rfl, rfl⟩)
theorem DV.one_rel {d : DV} {v : Value} (h : d.one = true) (hr : d.rel E w v) : v.oneCell' = true ∧ v.cells = #[v] := by
  cases d <;> simp only [DV.one] at h <;> (try cases h) <;> simp only [DV.rel] at hr
  case pd p => exact PD.one_rel h hr
  case ptr => obtain ⟨b, _, rfl⟩ := hr; exact ⟨rfl, rfl⟩
  case dptr => obtain ⟨b, o, rfl, _⟩ := hr; exact ⟨rfl, rfl⟩
  case sl => obtain ⟨A, l, c, _, _, rfl⟩ := hr; exact ⟨rfl, rfl⟩
  case asl => obtain ⟨b, _, rfl⟩ := hr; exact ⟨rfl, rfl⟩
  case rptr => obtain ⟨b, l, c, _, rfl⟩ := hr; exact ⟨rfl, rfl⟩
  case clo => obtain ⟨vs, rfl, _⟩ := hr; exact ⟨rfl, rfl⟩
  case nl => obtain ⟨c, rfl⟩ := hr; exact ⟨rfl, rfl⟩
  case nn => obtain ⟨_, a, l, c, rfl⟩ := hr; exact ⟨rfl, rfl⟩
  case yld => obtain ⟨b, _, rfl⟩ := hr; exact ⟨rfl, rfl⟩
  case iface => obtain ⟨x, rfl, _⟩ := hr; exact ⟨rfl, rfl⟩
def onesP : List PD → Bool
  | [] => true
  | p :: ps => p.one && onesP ps
theorem onesP_rel {I : Nat → Prop} : ∀ {ps : List PD} {vs : List Value}, onesP ps = true → relL I w ps vs → ∀ u ∈ vs, u.oneCell' = true
  | [], _, _, hr => by simp only [relL] at hr; subst hr; simp
  | p :: ps, _, h, hr => by
    simp only [onesP, Bool.and_eq_true] at h
    simp only [relL] at hr
    obtain ⟨v, vs', rfl, hv, hr'⟩ := hr
    intro u hu
    rcases List.mem_cons.1 hu with rfl | hu
    · exact (PD.one_rel h.1 hv).1
    · exact onesP_rel h.2 hr' u hu
/-- A value's cells. -/
def cellsV (d : DV) : Option (List DV) :=
  match d with
  | .pd (.agg ps) => match onesP ps with | true => some (ps.map DV.pd) | false => none
  | d => match d.one with | true => some [d] | false => none
theorem cellsV_rel {d : DV} {cs : List DV} {v : Value} (h : cellsV d = some cs) (hr : d.rel E w v) : drelL E w cs v.cells.toList ∧ ∀ u ∈ v.cells.toList, u.oneCell' = true := by
  unfold cellsV at h
  split at h
  · rename_i ps
    split at h
    · rename_i hp
      obtain rfl := Option.some.inj h
      simp only [DV.rel, PD.rel] at hr
      obtain ⟨vs, rfl, hl⟩ := hr
      exact ⟨drelL_pd.2 hl, onesP_rel hp hl⟩
    · cases h
  · split at h
    · rename_i hone
      obtain rfl := Option.some.inj h
      obtain ⟨h1, h2⟩ := DV.one_rel hone hr
      rw [h2]
      refine ⟨by simp only [drelL]; exact ⟨v, [], rfl, hr, rfl⟩, fun u hu => ?_⟩
      obtain rfl : u = v := by simpa using hu
      exact h1
    · cases h
def cellsP (d : DV) : Option (List PD) :=
  match d with
  | .pd (.agg ps) => match onesP ps with | true => some ps | false => none
  | .pd p => match p.one with | true => some [p] | false => none
  | _ => none
theorem cellsP_rel {d : DV} {ps : List PD} {v : Value} (h : cellsP d = some ps) (hr : d.rel E w v) : relL E.I w ps v.cells.toList ∧ ∀ u ∈ v.cells.toList, u.oneCell' = true := by
  unfold cellsP at h
  split at h
  · rename_i ps
    split at h
    · rename_i hp
      obtain rfl := Option.some.inj h
      simp only [DV.rel, PD.rel] at hr
      obtain ⟨vs, rfl, hl⟩ := hr
      exact ⟨hl, onesP_rel hp hl⟩
    · cases h
  · split at h
    · rename_i hone
      obtain rfl := Option.some.inj h
      obtain ⟨h1, h2⟩ := PD.one_rel hone (by simpa only [DV.rel] using hr)
      rw [h2]
      refine ⟨by simp only [relL]; exact ⟨v, [], rfl, by simpa only [DV.rel] using hr, rfl⟩, fun u hu => ?_⟩
      obtain rfl : u = v := by simpa using hu
      exact h1
    · cases h
  · cases h

theorem skip_op {o : Oper} {st' : St} (h : ∀ X E a w, StRel X E st a w → ∃ E' w', (execOp a.eval o).run P w = .ok .skip w' ∧ StRel X E' st' a w') : OpOK P o st undefD st' := by
  intro X E a w hs K Q hK
  obtain ⟨E', w', hr, hs'⟩ := h X E a w hs
  unfold Oper.wp
  rw [hr]
  exact hK undef E' w' (undefD_rel _ _) hs'
theorem val_op {o : Oper} {d : DV} {st' : St} (h : ∀ X E a w, StRel X E st a w → ∃ v E' w', (execOp a.eval o).run P w = .ok (.value v) w' ∧ d.rel E' w' v ∧ StRel X E' st' a w') : OpOK P o st d st' := by
  intro X E a w hs K Q hK
  obtain ⟨v, E', w', hr, hd, hs'⟩ := h X E a w hs
  unfold Oper.wp
  rw [hr]
  exact hK v E' w' hd hs'

/-! ### Stores -/
theorem grownBy_setRow (w : World) (b : Nat) (C : Array Value) : w.grownBy (w.setRow b C) (some b) :=
  ⟨rfl, rfl, rfl, by simp, fun k _ hk => setRow_other w b k C (fun e => hk (by rw [e]))⟩
theorem Keep.grown {H : List Ob} {w' : World} {row : Option Nat} {id : Nat} {old : Ob} (hH : HeapRel E w H) (hg : w.grownBy w' row) (hold : H[id]? = some old) (hl : old.live = true) (hrow : row = blk (E.mu id)) : Keep E.I w E.I w' := fun b hb =>
  ⟨hb, hg.block b (hH.bnd b hb) (fun e => hH.off id old b hold hl (by rw [← hrow, ← e]) hb)⟩
theorem drelL_keepw {w' : World} (hk : Keep E.I w E.I w') {ds : List DV} {vs : List Value} (h : drelL E w ds vs) : drelL E w' ds vs := by
  have hm : Moves E E w w' (fun _ => false) := ⟨fun _ h => h, fun b hb => (hk b hb).2, fun _ _ => rfl⟩
  have := drelL_scrub hm h
  rwa [scrubs_none] at this

def fits (h : Hint) (o n m : Nat) : Option Prop :=
  match h with
  | .w => some (o + n ≤ m)
  | .cs _ => some (o + n ≤ m)
  | _ => match Nat.ble (o + n) m with | true => some True | false => none
theorem fits_le {h : Hint} {o n m : Nat} {O : Prop} (hf : fits h o n m = some O) (hO : O) : o + n ≤ m := by
  unfold fits at hf
  split at hf
  · obtain rfl := Option.some.inj hf; exact hO
  · obtain rfl := Option.some.inj hf; exact hO
  · split at hf
    · rename_i hb; exact Nat.le_of_ble_eq_true hb
    · cases hf
def evStore (n : Nat) (H : List Ob) (x v : DV) (h : Hint) : Option (List Ob × Prop) :=
  match x with
  | .ptr id off => match H[id]?, cellsV v with
    | some (.cells e cs), some vs => match vs.length == n, fits h off n cs.length with
      | true, some O => match h with
        | .cs cs' => some (putOb H id (.cells e cs'), O ∧ putCells cs off vs = cs')
        | _ => some (putOb H id (.cells e (putCells cs off vs)), O)
      | _, _ => none
    | _, _ => none
  | .rptr id i sz off => match H[id]?, cellsP v, h with
    | some (.row e sz' es), some ps, .rd el => match sz == sz', ps.length == n, Nat.ble (off + n) el.length with
      | true, true, true => some (putOb H id (.row e sz (es.set i (putCells el off ps))), es[i]? = some el)
      | _, _, _ => none
    | _, _, _ => none
  | _ => none
theorem flatten_put : ∀ {es : List (List PD)} {sz : Nat} (i off : Nat) (el ps : List PD), (∀ e ∈ es, e.length = sz) → es[i]? = some el → off + ps.length ≤ sz → (es.set i (cutL el off ps)).flatten = cutL es.flatten (i * sz + off) ps
  | [], _, _, _, _, _, _, h, _ => by simp at h
  | e :: es, sz, i, off, el, ps, hl, h, hf => by
    have he : e.length = sz := hl e (by simp)
    match i with
    | 0 =>
      simp at h
      subst h
      simp only [List.set_cons_zero, List.flatten_cons, Nat.zero_mul, Nat.zero_add]
      unfold cutL
      rw [List.take_append_of_le_length (by omega), List.drop_append_of_le_length (by omega)]
      simp
    | i + 1 =>
      have ih := flatten_put i off el ps (fun e' h' => hl e' (List.mem_cons_of_mem _ h')) (by simpa using h) hf
      simp only [List.set_cons_succ, List.flatten_cons, ih]
      unfold cutL
      rw [show (i + 1) * sz + off = e.length + (i * sz + off) by rw [Nat.succ_mul, he]; omega]
      rw [List.take_length_add_append, show e.length + (i * sz + off) + ps.length = e.length + (i * sz + off + ps.length) by omega, List.drop_length_add_append]
      simp
theorem store_ok {o : Oper} {t : TypeId} {x v : Operand} {g : Bool} {n : Nat} {h : Hint} {H' : List Ob} {O : Prop} (ho : o.op = .store t x v) (ht : tyInfo P t = some (g, n))
    (he : evStore n st.heap (evl st.tmps x) (evl st.tmps v) h = some (H', O)) (hO : O) : OpOK P o st undefD ⟨st.tmps, H', st.pins⟩ := by
  refine skip_op fun X E a w hs => ?_
  have hx := evl_rel hs x
  have hv := evl_rel hs v
  obtain ⟨td, inf, _, hi, _, hn⟩ := tyInfo_get ht
  subst hn
  have fin : ∀ b off C e id old ob, a.eval x = .pointer (some ⟨b, off, none⟩) → w.heap[b]? = some (.cells C e (0, 0)) → st.heap[id]? = some old → old.live = true → blk (E.mu id) = some b →
      (a.eval v).cells.size = inf.size → off + (a.eval v).cells.size ≤ C.size → (∀ u ∈ (a.eval v).cells.toList, u.oneCell' = true) → H' = putOb st.heap id ob →
      ob.rel E (w.setRow b (cut C.toList off (a.eval v).cells.toList).toArray) id → ∃ E' w', (execOp a.eval o).run P w = .ok .skip w' ∧ StRel X E' ⟨st.tmps, H', st.pins⟩ a w' := by
    intro b off C e id old ob hxe hb hold hlive hblk hsz hfit h1 hH' hob
    refine ⟨E, w.setRow b (cut C.toList off (a.eval v).cells.toList).toArray, ?_, ?_⟩
    · simp only [execOp, ho, Instr.storeAt, Sem.run_bind, hxe, Instr.sureAddr, Sem.run_pure, Result.andThen_ok, run_storeVarAt w hi b off C e hb _ hsz hfit h1]
    · subst hH'
      exact StRel.inplace hs hold hlive (by rw [hblk]; exact grownBy_setRow w b _) hob
  unfold evStore at he
  split at he
  · rename_i id off hd
    rw [hd] at hx
    split at he
    · rename_i e cs vs hH hcv
      split at he
      · rename_i O' hlen hfit
        obtain ⟨b, hm, hxe⟩ := hx
        obtain ⟨b', C, hm', hh, hcs⟩ := hs.heap.ob id _ hH
        obtain rfl : b = b' := by rw [hm] at hm'; injection hm' with h; injection h with h; injection h
        obtain ⟨hr, h1⟩ := cellsV_rel hcv hv
        have hvl : (a.eval v).cells.size = vs.length := by simpa using drelL_length hr
        have hCl : C.size = cs.length := by simpa using drelL_length hcs
        have hlen' : vs.length = inf.size := by simpa using hlen
        have hblk : blk (E.mu id) = some b := by rw [hm]; rfl
        have obs : off + vs.length ≤ cs.length → ∀ cs', putCells cs off vs = cs' → (Ob.cells e cs').rel E (w.setRow b (cut C.toList off (a.eval v).cells.toList).toArray) id := by
          rintro hle _ rfl
          refine ⟨b, _, hm, setRow_heap w b C _ e (0, 0) hh, ?_⟩
          have hk : Keep E.I w E.I (w.setRow b (cut C.toList off (a.eval v).cells.toList).toArray) := Keep.grown hs.heap (grownBy_setRow w b _) hH rfl hblk.symm
          rw [putCells_eq _ _ _ hle, cutL_eq]
          exact drelL_keepw hk (drelL_cut off hcs hr)
        split at he
        · simp only [Option.some.injEq, Prod.mk.injEq] at he
          obtain ⟨rfl, rfl⟩ := he
          have hle := fits_le hfit hO.1
          exact fin b off C e id _ _ hxe hh hH rfl hblk (by omega) (by omega) h1 rfl (obs (by omega) _ hO.2)
        · simp only [Option.some.injEq, Prod.mk.injEq] at he
          obtain ⟨rfl, rfl⟩ := he
          have hle := fits_le hfit hO
          exact fin b off C e id _ _ hxe hh hH rfl hblk (by omega) (by omega) h1 rfl (obs (by omega) _ rfl)
      · cases he
    · cases he
  · rename_i id i sz off hd
    rw [hd] at hx
    split at he
    · rename_i e sz' es ps el hH hcp
      split at he
      · rename_i hsz hlen hfit
        simp only [Option.some.injEq, Prod.mk.injEq] at he
        obtain ⟨rfl, rfl⟩ := he
        obtain rfl : sz = sz' := by simpa using hsz
        have hlen' : ps.length = inf.size := by simpa using hlen
        have hfit' := Nat.le_of_ble_eq_true hfit
        obtain ⟨hr, h1⟩ := cellsP_rel hcp hv
        have hvl : (a.eval v).cells.size = ps.length := by simpa using relL_length hr
        obtain ⟨b, l, c, hm, hxe⟩ := hx
        have hob := hs.heap.ob id _ hH
        obtain ⟨xs, how, hxs, hl, hone⟩ := hob
        have hell : el.length = sz := hl el (List.mem_of_getElem? hO)
        have hil : i < es.length := (List.getElem?_eq_some_iff.1 hO).1
        rw [hm] at how
        have how0 := how
        rcases how.2 with ⟨h0, _⟩ | ⟨g, cap, cur, h0, hbg, hg, hnc, hcm, hcs, htake⟩
        · cases h0
        · injection h0 with h2 h3 h4
          injection h2 with h2
          injection h2 with h2
          subst h2 h3 h4
          have hblk : blk (E.mu id) = some b := by rw [hm]; rfl
          have hxl : xs.length = es.length * sz := how.1
          have hin : i * sz + off + ps.length ≤ es.length * sz := by
            have : (i + 1) * sz ≤ es.length * sz := Nat.mul_le_mul_right _ hil
            rw [Nat.succ_mul] at this
            omega
          have hcl : es.length * sz ≤ cur.size := by rw [hcs]; exact Nat.mul_le_mul_right _ hnc
          refine fin b (i * sz + off) cur e id _ _ hxe hg hH rfl hblk (by omega) (by omega) h1 rfl ?_
          refine ⟨cutL xs (i * sz + off) (a.eval v).cells.toList, ?_, ?_, ?_, ?_⟩
          · rw [hm]
            have hvl2 : (a.eval v).cells.toList.length = ps.length := by simpa using hvl
            refine ⟨by rw [cutL_length _ _ _ (by rw [hxl, hvl2]; omega)]; simpa using hxl, .inr ⟨b, c, _, by simp, Nat.zero_le _, setRow_heap w b cur _ e (0, 0) hg, by simpa using hnc, hcm, ?_, ?_⟩⟩
            · rw [List.size_toArray, cutL_eq, cutL_length _ _ _ (by rw [hvl2]; simp; omega)]
              simpa using hcs
            · rw [cutL_eq, List.length_set]
              rw [← htake]
              exact take_cutL _ _ _ _ (by rw [hvl2]; omega) (by simpa using hcl)
          · have hk : Keep E.I w E.I (w.setRow b (cut cur.toList (i * sz + off) (a.eval v).cells.toList).toArray) := Keep.grown hs.heap (grownBy_setRow w b _) hH rfl hblk.symm
            rw [putCells_eq _ _ _ (by omega), flatten_put i off el ps hl hO (by omega)]
            exact relL_keep hk _ _ (relL_cut _ hxs hr)
          · intro z hz
            rcases List.mem_or_eq_of_mem_set hz with hz | rfl
            · exact hl z hz
            · rw [putCells_eq _ _ _ (by omega), cutL_length _ _ _ (by omega)]; exact hell
          · intro u hu
            unfold cutL at hu
            simp only [List.mem_append] at hu
            rcases hu with (hu | hu) | hu
            · exact hone u (List.mem_of_mem_take hu)
            · exact h1 u hu
            · exact hone u (List.mem_of_mem_drop hu)
      · cases he
    · cases he
  · cases he
end
end Go.FI
