import Derived.Test.YtmfbkbjelikmoaaFi19
namespace Go.FI
open Go.RowKit

/-! ### A region that draws its order: every set of operations that can be done leads to one state -/
def appV : List Bool → List (Option (Nat × DV)) → List DV → List DV
  | b :: bs, v :: vs, ts => appV bs vs (match b, v with | true, some (t, d) => ts.set t d | _, _ => ts)
  | _, _, ts => ts
def hpD (D : List Bool) : List (Nat × List Ob) → List Ob → List Ob
  | [], h => h
  | (i, h') :: r, h => hpD D r (match D.getD i false with | true => h' | false => h)
def ovD (D : List Bool) : List (Nat × Nat × DV) → List DV → List DV
  | [], ts => ts
  | (k, t, d) :: r, ts => ovD D r (match D.getD k false with | true => ts.set t d | false => ts)
def stD (st : St) (vals : List (Option (Nat × DV))) (effs : List (Nat × List Ob)) (ov : List (Nat × Nat × DV)) (D : List Bool) : St := ⟨ovD D ov (appV D vals st.tmps), hpD D effs st.heap, st.pins⟩
def beqL : List Bool → List Bool → Bool
  | [], [] => true
  | true :: a, true :: b => beqL a b
  | false :: a, false :: b => beqL a b
  | _, _ => false
theorem beqL_eq : ∀ {a b : List Bool}, beqL a b = true → a = b
  | [], [], _ => rfl
  | x :: a, y :: b, h => by
    cases x <;> cases y <;> simp only [beqL] at h <;> first | (rw [beqL_eq h]) | cases h
  | [], _ :: _, h => by simp [beqL] at h
  | x :: _, [], h => by cases x <;> simp [beqL] at h
def hasL (ds : List (List Bool)) (d : List Bool) : Bool := ds.any (beqL d)
theorem hasL_mem {ds : List (List Bool)} {d : List Bool} (h : hasL ds d = true) : d ∈ ds := by
  obtain ⟨x, hx, he⟩ := List.any_eq_true.1 h
  rw [beqL_eq he]
  exact hx
/-- The sets, closed under what can be done next; at the end all is done. -/
def closedL (ops : List Oper) (downs : List (List Bool)) : Bool :=
  hasL downs (List.replicate ops.length false) && downs.all fun D => match readyL ops D with
    | [] => D.all id && Nat.beq D.length ops.length
    | rs => rs.all fun i => hasL downs (D.set i true)
def grow (ops : List Oper) (ds : List (List Bool)) : List (List Bool) :=
  ds.foldl (fun acc D => (readyL ops D).foldl (fun acc i => match hasL acc (D.set i true) with | true => acc | false => acc ++ [D.set i true]) acc) []
/-- All sets, level by level. -/
def downsOf (ops : List Oper) : Nat → List (List Bool) → List (List Bool)
  | 0, ds => ds
  | n + 1, ds => match ds with
    | [] => []
    | ds => ds ++ downsOf ops n (grow ops ds)
def opsOf (c : Code) : Array Oper := match c with | .region _ ops _ => ops | _ => #[]
def osAt : List (List Prop) → Nat → List Prop
  | [], _ => []
  | o :: _, 0 => o
  | _ :: r, i + 1 => osAt r i
def AllAll : List (List Prop) → Prop
  | [] => True
  | o :: r => All o ∧ AllAll r
theorem osAt_all : ∀ {l : List (List Prop)}, AllAll l → ∀ i, All (osAt l i)
  | [], _, _ => trivial
  | _ :: _, h, 0 => h.1
  | _ :: _, h, i + 1 => osAt_all h.2 i
/-- A question of the workbench. -/
def drawQ (_ : Program) (_ : List Ann) (_ : Code) (_ : St) : Nat := 0
section
variable {P : Program}
theorem map_get {α β : Type} {l : List α} {f g : α → β} (h : l.map f = l.map g) : ∀ x ∈ l, f x = g x := List.map_inj_left.1 h
theorem draw_dp (hm : P.follows .mixedOrders = true) {L : List Ann} {id : Nat} {ops : Array Oper} {st st' : St} {vals : List (Option (Nat × DV))} {effs : List (Nat × List Ob)} {ov : List (Nat × Nat × DV)} {Os : Nat → List Prop}
    (downs : List (List Bool)) (hc : closedL ops.toList downs = true)
    (hE : (downs.map fun D => (readyL ops.toList D).map fun i => evStep false P L id ops.toList i (stD st vals effs ov D)) = downs.map fun D => (readyL ops.toList D).map fun i => Ex.yes .normal (stD st vals effs ov (D.set i true)) (Os i))
    (hs : stD st vals effs ov (List.replicate ops.toList.length false) = st) (he : stD st vals effs ov (List.replicate ops.toList.length true) = st') (hO : ∀ i, All (Os i)) : CodeOK P (.region id ops true) st .normal st' := by
  intro r hr0 X E a w hst
  unfold closedL at hc
  simp only [Bool.and_eq_true] at hc
  obtain ⟨h0, hc⟩ := hc
  have hcl := List.all_eq_true.1 hc
  have key : ∀ (fuel : Nat) (listed : Array Bool) (E : Env) (a : Act) (w : World), listed.toList ∈ downs → StRel X E (stD st vals effs ov listed.toList) a w →
      (fuel = 0 → readyL ops.toList listed.toList = []) → (∀ i ∈ readyL ops.toList listed.toList, True) → (listed.toList.filter (! ·)).length ≤ fuel →
      wpAnyIn (FW r) 0 P .any ops (fun e a' w' => e = .normal ∧ ∃ E', StRel X E' st' a' w') fuel listed a w := by
    intro fuel
    have fin : ∀ (listed : Array Bool) (E : Env) (a : Act) (w : World), listed.toList ∈ downs → StRel X E (stD st vals effs ov listed.toList) a w → readyL ops.toList listed.toList = [] → Exit.normal = Exit.normal ∧ ∃ E', StRel X E' st' a w := by
      intro listed E a w hd hr hnil
      have := hcl _ hd
      rw [hnil] at this
      simp only [Bool.and_eq_true] at this
      obtain ⟨hall, hlen⟩ := this
      have hfull : listed.toList = List.replicate ops.toList.length true := by
        rw [← Nat.eq_of_beq_eq_true hlen]
        exact List.eq_replicate_iff.2 ⟨rfl, fun b hb => by simpa using List.all_eq_true.1 hall b hb⟩
      rw [hfull, he] at hr
      exact ⟨rfl, E, hr⟩
    induction fuel with
    | zero =>
      intro listed E a w hd hr hz _ _
      exact ⟨(readyL_eq ops listed).trans (hz rfl), fin listed E a w hd hr (hz rfl)⟩
    | succ fuel ih =>
      intro listed E a w hd hr _ _ hlen
      refine ⟨fun h0 => fin listed E a w hd hr ((readyL_eq ops listed).symm.trans h0), fun i hi => ?_⟩
      rw [readyL_eq] at hi
      have hstep := map_get (map_get hE _ hd) i hi
      refine evStep_ok hstep hr0 (hO i) hr (fun _ E' a' w' hs' => ?_) (fun h => absurd rfl h)
      have hset : (listed.setIfInBounds i true).toList = listed.toList.set i true := by simp
      have hmem : (listed.setIfInBounds i true).toList ∈ downs := by
        rw [hset]
        have := hcl _ hd
        split at this
        · rename_i hnil
          rw [hnil] at hi
          cases hi
        · exact hasL_mem (List.all_eq_true.1 this i hi)
      have hun : listed.toList[i]? = some false := by
        unfold readyL at hi
        have := (List.mem_filter.1 hi).2
        simp only [Bool.and_eq_true, Bool.not_eq_true'] at this
        have h1 := this.1
        rw [List.getD_eq_getElem?_getD] at h1
        cases hx : listed.toList[i]? with
        | none => rw [hx] at h1; cases h1
        | some b => rw [hx] at h1; simp only [Option.getD_some] at h1; rw [h1]
      have hcount : ((listed.toList.set i true).filter (! ·)).length < (listed.toList.filter (! ·)).length := by
        obtain ⟨hlt, hv⟩ := List.getElem?_eq_some_iff.1 hun
        have h1 : listed.toList = listed.toList.take i ++ false :: listed.toList.drop (i + 1) := by
          rw [← hv, List.getElem_cons_drop, List.take_append_drop]
        rw [List.set_eq_take_append_cons_drop, if_pos hlt]
        conv => rhs; rw [h1]
        simp
      refine ih (listed.setIfInBounds i true) E' a' w' hmem (by rw [hset]; exact hs') (fun hz => ?_) (fun _ _ => trivial) (by rw [hset]; omega)
      subst hz
      rw [hset]
      have hzero : ((listed.toList.set i true).filter (! ·)).length = 0 := by omega
      cases hrd : readyL ops.toList (listed.toList.set i true) with
      | nil => rfl
      | cons j js =>
        exfalso
        have hj : j ∈ readyL ops.toList (listed.toList.set i true) := by rw [hrd]; simp
        unfold readyL at hj
        have := (List.mem_filter.1 hj).2
        simp only [Bool.and_eq_true, Bool.not_eq_true'] at this
        have h1 := this.1
        rw [List.getD_eq_getElem?_getD] at h1
        cases hx : (listed.toList.set i true)[j]? with
        | none => rw [hx] at h1; cases h1
        | some b =>
          rw [hx] at h1
          simp only [Option.getD_some] at h1
          subst h1
          have : false ∈ (listed.toList.set i true).filter (! ·) := List.mem_filter.2 ⟨List.mem_of_getElem? hx, rfl⟩
          rw [List.length_eq_zero_iff.1 hzero] at this
          cases this
  refine wpB_of (wpIn_region_any hm (key ops.size (Array.replicate ops.size false) E a _ ?_ ?_ (fun hz => ?_) (fun _ _ => trivial) ?_))
  · simpa using hasL_mem h0
  · have := hst.drawn (w.drawn + 1)
    rw [← hs] at this
    simpa using this
  · have hn : ops.toList = [] := by simpa using hz
    simp [readyL, hn]
  · simp
end
end Go.FI
