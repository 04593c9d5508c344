import Derived.Test.YtmfbkbjelikmoaaFr1
namespace Go.FI
open Go.RowKit Go.ChangeShapes Go.WideShapes Go.ChangeAt

/-! ### A law's row -/
def aggOf (P : Program) (t : TypeId) : Bool :=
  match P.underlying t with
  | some (.struct _) => true
  | some (.array _ _) => true
  | _ => false
def argP (agg : Bool) (ps : List PD) : PD :=
  match agg, ps with
  | true, ps => .agg ps
  | false, [p] => p
  | false, _ => .nili
def argsP (P : Program) : List TypeId → List (List PD) → List PD
  | t :: ts, ps :: pss => argP (aggOf P t) ps :: argsP P ts pss
  | _, _ => []
def flats (P : Program) : List TypeId → Option (List (List CT))
  | [] => some []
  | t :: ts => match flatT P 20 t, flats P ts with
    | some l, some r => match l.all (okT P 4), Nat.ble 1 l.length, aggOf P t || Nat.beq l.length 1 with
      | true, true, true => some (l :: r)
      | _, _, _ => none
    | _, _ => none
def typed (P : Program) : List (List CT) → List (List PD) → Prop
  | [], pss => pss = []
  | l :: ls, pss => ∃ ps pss', pss = ps :: pss' ∧ ctL (ctOK P 4) l ps ∧ typed P ls pss'
section
variable {H : Type} {enc : TypeId × Value → H} {P : Program} {W : World}
theorem arg_rel {t : TypeId} {l : List CT} {v : Value} {ps : List PD} {base : Nat} (h1 : aggOf P t || Nat.beq l.length 1) (hv : Value.okWide P W .any base t v) (hr : relL (fun b => b < W.heap.size) W ps v.cells.toList) (hl : ps.length = l.length) (hone : ∀ u ∈ v.cells.toList, u.oneCell' = true) : (argP (aggOf P t) ps).rel (fun b => b < W.heap.size) W v := by
  unfold aggOf at h1 ⊢
  unfold Value.okWide at hv
  split
  · rename_i hu
    rw [hu] at hv
    obtain ⟨cs, rfl, _⟩ := hv
    simp only [argP, PD.rel]
    exact ⟨cs, rfl, hr⟩
  · rename_i hu
    rw [hu] at hv
    obtain ⟨cs, rfl, _⟩ := hv
    simp only [argP, PD.rel]
    exact ⟨cs, rfl, hr⟩
  · rename_i h2 h3
    have hl1 : l.length = 1 := by
      split at h1
      · rename_i hu; exact absurd hu (h2 _)
      · rename_i hu; exact absurd hu (h3 _ _)
      · simpa using h1
    match ps, hl with
    | [p], _ =>
      simp only [relL] at hr
      obtain ⟨u, vs', e, hu, rfl⟩ := hr
      have hcell : v = u := by
        cases v with
        | agg cs =>
          exfalso
          cases hP : P.underlying t with
          | none => rw [hP] at hv; exact absurd hv (by simp [Cell.okWide, Cell.ok, hP])
          | some d =>
            rw [hP] at hv
            cases d <;> first
              | exact h2 _ hP
              | exact h3 _ _ hP
              | simp [Cell.okWide, Cell.ok, hP] at hv
        | _ => simpa [Value.cells] using e
      rw [hcell]
      exact hu
    | [], h => simp [hl1] at h
    | _ :: _ :: _, h => simp [hl1] at h
theorem args_rel : ∀ (ts : List TypeId) (tyss : List (List CT)) (vs : List Value) (ds : List (DataW H)) (p : List MemPlace) (base : Nat), flats P ts = some tyss → (∀ (j : Nat) t v, ts[j]? = some t → vs[j]? = some v → Value.okWide P W .any base t v) →
    DataW.TrodAll enc P W 0 (fun _ => true) true ts vs ds p → ∃ pss, typed P tyss pss ∧ relL (fun b => b < W.heap.size) W (argsP P ts pss) vs
  | [], tyss, vs, ds, p, base, hf, _, h => by
    simp only [flats, Option.some.injEq] at hf
    subst hf
    cases vs <;> cases ds <;> simp [DataW.TrodAll] at h
    exact ⟨[], by simp [typed], by simp [argsP, relL]⟩
  | t :: ts, tyss, vs, ds, p, base, hf, hok, h => by
    match vs, ds, h with
    | [], _, h => simp [DataW.TrodAll] at h
    | _ :: _, [], h => simp [DataW.TrodAll] at h
    | v :: vs, d :: ds, h =>
      simp only [DataW.TrodAll] at h
      obtain ⟨p1, q1, h1, h2, _⟩ := h
      unfold flats at hf
      split at hf
      · rename_i l r hl hr
        split at hf
        · rename_i k1 k2 k3
          obtain rfl := Option.some.inj hf
          obtain ⟨pss, g1, g2⟩ := args_rel ts r vs ds q1 base hr (fun j t' v' hj hv => hok (j + 1) t' v' (by simpa using hj) (by simpa using hv)) h2
          obtain ⟨fuel, ht⟩ := h1
          obtain ⟨ps, r1, r2, r3⟩ := read_cells fuel 4 20 t l v.cells.toList _ hl (fun c hc => List.all_eq_true.1 k1 c hc) ht
          refine ⟨ps :: pss, by simp only [typed]; exact ⟨ps, pss, rfl, r2, g1⟩, ?_⟩
          simp only [argsP, relL]
          exact ⟨v, vs, rfl, arg_rel k3 (hok 0 t v rfl rfl) r1 (ctL_length r2) r3, g2⟩
        · cases hf
      · cases hf
theorem trodAll_below (hl : laidOutB P = true) {W' : World} (hb : Below W.heap.size W W') : ∀ (ts : List TypeId) (vs : List Value) (ds : List (DataW H)) (p : List MemPlace), (∀ t ∈ ts, P.readableRec t = true ∧ t < P.types.size) → (∀ x ∈ p, x.block < W.heap.size) →
    DataW.TrodAll enc P W 0 (fun _ => true) true ts vs ds p → DataW.TrodAll enc P W' 0 (fun b => decide (b < W.heap.size)) true ts vs ds p
  | [], vs, ds, p, _, _, h => by cases vs <;> cases ds <;> simp [DataW.TrodAll] at h ⊢; exact h
  | t :: ts, vs, ds, p, ht, hp, h => by
    match vs, ds, h with
    | [], _, h => simp [DataW.TrodAll] at h
    | _ :: _, [], h => simp [DataW.TrodAll] at h
    | v :: vs, d :: ds, h =>
      simp only [DataW.TrodAll] at h ⊢
      obtain ⟨p1, q1, h1, h2, rfl⟩ := h
      exact ⟨p1, q1, Below.trod hl (ht t (by simp)).1 (ht t (by simp)).2 h1 hb (fun x hx => hp x (List.mem_append_left _ hx)), trodAll_below hl hb ts vs ds q1 (fun t' h' => ht t' (List.mem_cons_of_mem _ h')) (fun x hx => hp x (List.mem_append_right _ hx)) h2, rfl⟩
/-- What a law's row asks behind the call. -/
theorem law_post {fn : Func} {s : ChangeSpec} {W' : World} {args : Array Value} {ds : List (DataW H)} {before : List MemPlace} {tb : TypeId} (hl : laidOutB P = true) (hread : ∀ t ∈ fn.params.toList, P.readableRec t = true ∧ t < P.types.size) (hrt : fn.resultTypes = #[tb]) (htb : P.underlying tb = some .bool)
    (hvars : s.vars = []) (hfn : s.fn H ds = { results := [.lit (.bool true)], args := ds }) (hW : DataW.Whole enc P fn.params.toList s.vars false W args.toList ds [] before) (hb : Below W.heap.size W W') :
    s.post enc P fn false true false false W args (.bool true) W' := by
  have hW' := hW
  obtain ⟨p, q, hA, hV, hpq, _, _⟩ := hW
  rw [hvars] at hV
  have hq : q = [] := by simpa [DataW.TrodVars] using hV
  subst hq
  rw [List.append_nil] at hpq
  subst hpq
  have hlt : ∀ x ∈ before, x.block < W.heap.size := fun x hx => by simpa using hW'.lt x hx
  refine ⟨ds, [], before, [], before, [], by rw [hvars] at hW' ⊢; exact hW', ?_, ?_, ?_, hb.frame _, fun h => by cases h⟩
  · rw [List.append_nil, hfn, hrt]
    exact trodAll_mk1 (shut_bool htb true)
  · rw [List.append_nil, hfn]
    exact trodAll_below hl hb _ _ _ _ hread hlt hA
  · rw [hvars, List.append_nil, hfn]
    rfl
theorem trodAll_len : ∀ {ts : List TypeId} {vs : List Value} {ds : List (DataW H)} {p : List MemPlace}, DataW.TrodAll enc P W 0 (fun _ => true) true ts vs ds p → ds.length = ts.length
  | [], vs, ds, p, h => by cases vs <;> cases ds <;> simp [DataW.TrodAll] at h ⊢
  | t :: ts, vs, ds, p, h => by
    match vs, ds, h with
    | [], _, h => simp [DataW.TrodAll] at h
    | _ :: _, [], h => simp [DataW.TrodAll] at h
    | v :: vs, d :: ds, h =>
      simp only [DataW.TrodAll] at h
      obtain ⟨p1, q1, _, h2, _⟩ := h
      simp [trodAll_len h2]
/-- A law, lifted: from what it answers at data. -/
theorem law_lifted {C : Checked} {os : Os} {f : FuncId} {fn : Func} {s : ChangeSpec} {conds : List PathCond} {tyss : List (List CT)} {tb : TypeId} (own : ownKnob C.prog.godebug = none) (started : os.Started) (noInit : C.prog.inits.idxOf? f = none) (hfn : C.prog.funcs[f]? = some fn)
    (witness : ∃ (w : World) (tape : Tape) (i : Input), w.os = os ∧ (w.forCall tape i).Shaped C.prog ∧ i.vars = [] ∧ Input.okWide C.prog (w.forCall tape i) .any w.heap.size f i ∧ s.pre6 enc C.prog fn conds false (w.forCall tape i).memory i.args ∧ ({} : Assume).holds C.prog (lone (Frame.enter C.prog f i.args .normal) [] (w.forCall tape i)))
    (hl : laidOutB C.prog = true) (hread : ∀ t ∈ fn.params.toList, C.prog.readableRec t = true ∧ t < C.prog.types.size) (hrt : fn.resultTypes = #[tb]) (htb : C.prog.underlying tb = some .bool) (hvars : s.vars = [])
    (hflat : flats C.prog fn.params.toList = some tyss) (hspec : ∀ ds : List (DataW H), ds.length = fn.params.toList.length → s.fn H ds = { results := [.lit (.bool true)], args := ds })
    (h : ∀ pss, typed C.prog tyss pss → CallP C.prog f (argsP C.prog fn.params.toList pss) (.bool true)) :
    ReturnsInHanded {} C os f .any (s.pre6 enc C.prog fn conds false) (s.post enc C.prog fn false true false false) := by
  refine returnsInHanded_of_change own started noInit hfn witness ?_
  intro W base args ds gs before hval hW _ _
  have hW' := hW
  obtain ⟨p, q, hA, hV, hpq, _, _⟩ := hW
  have hgs : gs = [] := by
    rw [hvars] at hV
    cases gs with
    | nil => rfl
    | cons => simp [DataW.TrodVars] at hV
  subst hgs
  obtain ⟨pss, ht, hrel⟩ := args_rel fn.params.toList tyss args.toList ds p base hflat (fun j t v hj hv => hval j t v (by simpa using hj) (by simpa using hv)) hA
  refine (h pss ht (fun b => b < W.heap.size) W args (fun _ h => h) hrel).mono ?_
  rintro e W' ⟨u, I', rfl, hu, hbelow, _⟩
  have : u = .bool true := by simpa only [PD.rel] using hu
  subst this
  exact ⟨_, rfl, law_post hl hread hrt htb hvars (hspec ds (trodAll_len hA)) hW' hbelow⟩
end
end Go.FI
