import Derived.Test.YtmfbkbjelikmoaaFi12
namespace Go.FI
open Go.RowKit

section
variable {P : Program} {X : Ctx} {E : Env} {st : St} {a : Act} {w : World}

/-! ### make -/
theorem rep_flat_len (n : Nat) (zs : List Value) : (List.replicate n zs).flatten.length = n * zs.length := by
  induction n with
  | zero => simp
  | succ n ih => simp only [List.replicate_succ, List.flatten_cons, List.length_append, ih, Nat.succ_mul]; omega
theorem rep_flat_take {α : Type} (zs : List α) : ∀ (l c : Nat), l ≤ c → (List.replicate c zs).flatten.take (l * zs.length) = (List.replicate l zs).flatten
  | 0, c, _ => by simp
  | l + 1, 0, h => by omega
  | l + 1, c + 1, h => by
    simp only [List.replicate_succ, List.flatten_cons]
    rw [Nat.succ_mul, Nat.add_comm, List.take_length_add_append, rep_flat_take zs l c (by omega)]
theorem relL_replicate {I : Nat → Prop} {cs : List PD} {vs : List Value} (h : relL I w cs vs) : ∀ n, relL I w (List.replicate n cs).flatten (List.replicate n vs).flatten
  | 0 => by simp [relL]
  | n + 1 => by
    simp only [List.replicate_succ, List.flatten_cons]
    exact relL_append h (relL_replicate h n)
def evMake (P : Program) (t : TypeId) (l c : DV) (st : St) (id : Nat) : Option (DV × St × Prop) :=
  match l, c, sliceZ P t with
  | .pd (.int _ l), .pd (.int _ c), some (e, sz, bytes, z) => match cvL z.cells.toList, freeOb st id with
    | some cs, true => match onesP cs, sz with
      | true, _ + 1 => some (.sl id l.toNat, st.putO id (.row e sz (List.replicate l.toNat cs)), 0 ≤ l ∧ l ≤ c ∧ (bytes : Int) * c ≤ 281474976710656 ∧ c ≤ 9223372036854775807)
      | _, _ => none
    | _, _ => none
  | _, _, _ => none
theorem make_ok {o : Oper} {t : TypeId} {l c : Operand} {id : Nat} {d : DV} {st' : St} {O : Prop} (ho : o.op = .makeSlice t l c)
    (he : evMake P t (evl st.tmps l) (evl st.tmps c) st id = some (d, st', O)) (hO : O) : OpOK P o st d st' := by
  unfold evMake at he
  split at he
  · rename_i kl lv kc cvv e sz bytes z hl hc hz
    split at he
    · rename_i cs hcs hid
      split at he
      · rename_i k hones
        simp only [Option.some.injEq, Prod.mk.injEq] at he
        obtain ⟨rfl, rfl, rfl⟩ := he
        obtain ⟨h0, h1, h2, h3⟩ := hO
        obtain ⟨i, hu, hi, hzz, hsz, hby, hzs⟩ := sliceZ_get hz
        refine val_op fun X E a w hs => ?_
        have hlv := evl_rel hs l
        have hcv := evl_rel hs c
        rw [hl] at hlv
        rw [hc] at hcv
        simp only [DV.rel, PD.rel] at hlv hcv
        have hr := run_make (P := P) w t e i z hu hi hzz kl kc lv cvv h0 h1 (by rw [hby]; exact h2) h3
        have hg := World.grownBy_alloc w (.cells (madeCells z.cells (cvv.toNat * i.size)) e) none
        refine ⟨.slice (some ⟨w.heap.size, 0, none⟩) lv.toNat cvv.toNat, E.put id (.slice (some ⟨w.heap.size, 0, none⟩) lv.toNat cvv.toNat), w.alloc (.cells (madeCells z.cells (cvv.toNat * i.size)) e), ?_, ?_, hs.fresh hid hg ?_ ?_⟩
        · exact exec_of (by simp [execOp, ho] <;> rfl) (by rw [hlv, hcv]; exact hr)
        · simp only [DV.rel]; exact ⟨_, _, _, Env.put_same _ _ _, Nat.le_refl _, rfl⟩
        · have hzl : z.cells.toList.length = k + 1 := by simpa using hzs
          have hcsl : cs.length = k + 1 := by rw [← relL_length (cvL_rel (I := E.I) (w := w) hcs)]; exact hzl
          refine ⟨(List.replicate lv.toNat z.cells.toList).flatten, ⟨?_, .inr ⟨w.heap.size, cvv.toNat, madeCells z.cells (cvv.toNat * i.size), ?_, Nat.zero_le _, heap_alloc_new w _, ?_, ?_, ?_, ?_⟩⟩, ?_, ?_, ?_⟩
          · rw [rep_flat_len, hzl, List.length_replicate]
          · rw [Env.put_same, List.length_replicate]
          · rw [List.length_replicate]; omega
          · have : (9223372036854775807 : Nat) = maxLen := by decide
            omega
          · rw [size_madeCells, hsz]
          · have := range_mod z.cells cvv.toNat
            unfold madeCells
            rw [hsz, ← hzs, this, List.length_replicate]
            have h4 := rep_flat_take z.cells.toList lv.toNat cvv.toNat (by omega)
            rwa [show z.cells.toList.length = z.cells.size by simp] at h4
          · exact relL_replicate (relL_keep (fresh_keep hs id _ hg) _ _ (cvL_rel hcs)) _
          · intro x hx
            rw [List.eq_of_mem_replicate hx, hcsl]
          · intro u hu'
            obtain ⟨l', hl', hu''⟩ := List.mem_flatten.1 hu'
            rw [List.eq_of_mem_replicate hl'] at hu''
            exact onesP_rel hones (cvL_rel (I := E.I) (w := w) hcs) u hu''
        · intro b hb
          simp only [blk, Option.some.injEq] at hb
          omega
      · cases he
    · cases he
  · cases he

/-! ### append -/
/-- What is appended, as elements. -/
def evSrc (H : List Ob) (sz : Nat) (x : DV) : Option (List (List PD)) :=
  match x with
  | .pd (.ds sz' es) => match sz == sz' with | true => some es | false => none
  | .pd .nils => some []
  | .nn sz' es => match sz == sz' with | true => some es | false => none
  | .sl id n => match H[id]? with
    | some (.row _ sz' es) => match sz == sz' with | true => some (es.take n) | false => none
    | _ => none
  | .asl id off n _ => match H[id]?, sz with
    | some (.cells _ cs), 1 => match pdL ((cs.drop off).take n) with
      | some ps => match onesP ps, ps.length == n with
        | true, true => some (ps.map fun p => [p])
        | _, _ => none
      | none => none
    | _, _ => none
  | _ => none
theorem flatten_singles (ps : List PD) : (ps.map fun p => [p]).flatten = ps := by
  induction ps with
  | nil => rfl
  | cons p ps ih => simp [ih]
theorem flat_len {sz : Nat} : ∀ {es : List (List PD)}, (∀ e ∈ es, e.length = sz) → es.flatten.length = es.length * sz
  | [], _ => by simp
  | e :: es, hl => by rw [List.flatten_cons, List.length_append, hl e (by simp), flat_len (fun e' h' => hl e' (List.mem_cons_of_mem _ h')), List.length_cons, Nat.succ_mul, Nat.add_comm]
theorem take_flat {es : List (List PD)} {sz : Nat} (hl : ∀ e ∈ es, e.length = sz) : ∀ n, n ≤ es.length → (es.take n).flatten = es.flatten.take (n * sz) := by
  induction es with
  | nil => intro n _; simp
  | cons e es ih =>
    intro n hn
    match n with
    | 0 => simp
    | n + 1 =>
      have he : e.length = sz := hl e (by simp)
      rw [List.take_succ_cons, List.flatten_cons, List.flatten_cons, Nat.succ_mul, Nat.add_comm, ← he, List.take_length_add_append, ih (fun e' h' => hl e' (List.mem_cons_of_mem _ h')) n (by simpa using hn), he]
theorem src_ds {sz : Nat} {v : Value} {es' : List (List PD)} (hd : (PD.ds sz es').rel E.I w v) :
    (∀ x ∈ es', x.length = sz) ∧ ∃ (A : Option Addr) (c : Nat) (news : List Value), v = .slice A es'.length c ∧ relL E.I w es'.flatten news ∧ news.length = es'.length * sz ∧ (∀ u ∈ news, u.oneCell' = true) ∧
      ((A = none ∧ es' = []) ∨ ∃ ad, A = some ad ∧ ∀ j u, news[j]? = some u → w.cell? (ad.add j) = some u) := by
  simp only [PD.rel] at hd
  obtain ⟨A, c, rfl, hc, hl, hne⟩ := hd
  refine ⟨hl, ?_⟩
  by_cases h0 : es' = []
  · subst h0
    refine ⟨A, c, [], rfl, by simp [relL], by simp, by simp, ?_⟩
    cases A with
    | none => exact .inl ⟨rfl, rfl⟩
    | some ad => exact .inr ⟨ad, rfl, by simp⟩
  · obtain ⟨b, q, rfl, hb, hrow⟩ := hne h0
    obtain ⟨vs, h1, h2, h3⟩ := relAt_cells (relRow_flat.1 hrow)
    refine ⟨_, c, vs, rfl, h1, ?_, h3, .inr ⟨_, rfl, fun j u hj => by rw [add_at]; exact h2 j u hj⟩⟩
    rw [relL_length h1]
    exact flat_len hl
/-- A source of an append, in the model. -/
theorem src_real (hs : StRel X E st a w) {sz : Nat} {d : DV} {v : Value} {es : List (List PD)} (hd : d.rel E w v) (he : evSrc st.heap sz d = some es) :
    (∀ x ∈ es, x.length = sz) ∧ ∃ (A : Option Addr) (c : Nat) (news : List Value), v = .slice A es.length c ∧ relL E.I w es.flatten news ∧ news.length = es.length * sz ∧ (∀ u ∈ news, u.oneCell' = true) ∧
      ((A = none ∧ es = []) ∨ ∃ ad, A = some ad ∧ ∀ j u, news[j]? = some u → w.cell? (ad.add j) = some u) := by
  unfold evSrc at he
  split at he
  · rename_i sz' es'
    split at he
    · rename_i hsz
      obtain rfl : sz = sz' := by simpa using hsz
      obtain rfl := Option.some.inj he
      exact src_ds (by simpa only [DV.rel] using hd)
    · cases he
  · obtain rfl := Option.some.inj he
    simp only [DV.rel, PD.rel] at hd
    subst hd
    exact ⟨by simp, none, 0, [], rfl, by simp [relL], by simp, by simp, .inl ⟨rfl, rfl⟩⟩
  · rename_i sz' es'
    split at he
    · rename_i hsz
      obtain rfl : sz = sz' := by simpa using hsz
      obtain rfl := Option.some.inj he
      simp only [DV.rel] at hd
      exact src_ds hd.1
    · cases he
  · rename_i id n
    split at he
    · rename_i e sz' es' hH
      split at he
      · rename_i hsz
        obtain rfl : sz = sz' := by simpa using hsz
        obtain rfl := Option.some.inj he
        obtain ⟨A, l, c, hm, hnl, rfl⟩ := hd
        have hob := hs.heap.ob id _ hH
        have hl := row_len hob hm
        obtain ⟨xs, how, hxs, hlen, hone⟩ := hob
        have hn : n ≤ es'.length := by omega
        refine ⟨fun x hx => hlen x (List.mem_of_mem_take hx), A, c, xs.take (n * sz), by rw [List.length_take, Nat.min_eq_left hn], by rw [take_flat hlen n hn]; exact relL_take _ hxs, ?_, fun u hu => hone u (List.mem_of_mem_take hu), ?_⟩
        · rw [List.length_take, List.length_take, how.1, Nat.min_eq_left hn, Nat.min_eq_left (Nat.mul_le_mul_right _ hn)]
        · cases A with
          | none =>
            left
            refine ⟨rfl, ?_⟩
            rw [hm] at how
            rcases how.2 with ⟨_, h0⟩ | ⟨g, cap, cur, h0, _⟩
            · obtain rfl := List.eq_nil_of_length_eq_zero h0; simp
            · cases h0
          | some ad =>
            right
            refine ⟨ad, rfl, fun j u hj => ?_⟩
            rw [hm] at how
            rw [List.getElem?_take] at hj
            split at hj
            · exact how.cells (g := ad.block) rfl j u hj |> fun h => by
                rcases how.2 with ⟨h0, _⟩ | ⟨g, cap, cur, h0, _⟩
                · cases h0
                · injection h0 with h1
                  injection h1 with h1
                  subst h1
                  exact h
            · cases hj
      · cases he
    · cases he
  · rename_i id off n c
    split at he
    · rename_i e cs hH
      split at he
      · rename_i ps hp
        split at he
        · rename_i hone hn
          obtain rfl := Option.some.inj he
          obtain ⟨b, hm, rfl⟩ := hd
          obtain ⟨b', C, hm', hh, hcs⟩ := hs.heap.ob id _ hH
          obtain rfl : b = b' := by rw [hm] at hm'; injection hm' with h; injection h with h; injection h
          have hr := pdL_rel hp (drelL_take n (drelL_drop off hcs))
          have hn' : ps.length = n := by simpa using hn
          refine ⟨by simp, _, c, _, by rw [List.length_map, hn'], by rw [flatten_singles]; exact hr, by rw [relL_length hr]; simp, onesP_rel hone hr, .inr ⟨_, rfl, fun j u hj => ?_⟩⟩
          rw [add_at, cell_of_row w b _ C e (0, 0) hh]
          rw [List.getElem?_take] at hj
          split at hj
          · rw [List.getElem?_drop] at hj
            simpa using hj
          · cases hj
        · cases he
      · cases he
    · cases he
  · cases he
theorem run_append_none {t ty e : TypeId} {i : TypeInfo} {size base : Nat} (ht : P.underlying t = some (.slice e)) (hi : P.info? e = some i) {v : Value} {n : Nat} {xs : List Value} (hown : w.ownsRow base e size v n xs) (c : Nat) :
    (Builtin.append_ #[t, t] ty #[v, .slice none 0 c]).run P w = .ok v w := by
  rcases hown.2 with ⟨rfl, rfl⟩ | ⟨g, cap, cur, rfl, _, _, hnc, _⟩
  · simp [Builtin.append_, run_underlying ht, sizeOf, typeInfo, hi, Builtin.lenOf, Builtin.firstCells]
  · simp [Builtin.append_, run_underlying ht, sizeOf, typeInfo, hi, Builtin.lenOf, Builtin.firstCells, hnc, storeCells]
def evAppTo (e : TypeId) (sz bytes : Nat) (es news : List (List PD)) (id : Nat) (st : St) : DV × St × Prop :=
  (.sl id (es ++ news).length, st.putO id (.row e sz (es ++ news)), (es.length + news.length) * bytes ≤ 140737488355328 ∧ es.length + news.length ≤ 9223372036854775807)
def evAppend (P : Program) (t : TypeId) (s x : DV) (st : St) (h : Hint) : Option (DV × St × Prop) :=
  match sliceZ P t with
  | some (e, sz, bytes, _) => match sz, evSrc st.heap sz x with
    | _ + 1, some news => match s, h with
      | .sl id n, _ => match st.heap[id]? with
        | some (.row e' sz' es) => match e == e', sz == sz', pinned st.pins id with
          | true, true, false => match evAppTo e sz bytes es news id st with
            | (d, st', O) => some (d, st', n = es.length ∧ O)
          | _, _, _ => none
        | _ => none
      | .pd .nils, .fr id => match freeOb st id with
        | true => some (evAppTo e sz bytes [] news id st)
        | false => none
      | _, _ => none
    | _, _ => none
  | none => none
theorem appTo_sound (hs : StRel X E st a w) {t e ty : TypeId} {i : TypeInfo} {z : Value} {sz bytes : Nat} (hu : P.underlying t = some (.slice e)) (hi : P.info? e = some i) (hz : i.zero = some z) (hsz : i.size = sz) (hby : i.bytes = bytes) (hzs : z.cells.size = sz) (h0 : 0 < sz)
    {id : Nat} (hpin : pinned st.pins id = false) (hid : id ≤ st.heap.length) {v xv : Value} {es news : List (List PD)} {xs : List Value} (how : w.ownsRow 0 e sz v es.length xs) (hxs : relL E.I w es.flatten xs) (hl : ∀ x ∈ es, x.length = sz) (hone : ∀ u ∈ xs, u.oneCell' = true)
    (hrow : ∀ b, blk v = some b → ∃ x, st.heap[id]? = some x ∧ x.live = true ∧ blk (E.mu id) = some b)
    {dx : DV} (hdx : dx.rel E w xv) (hsrc : evSrc st.heap sz dx = some news) (hO : (evAppTo e sz bytes es news id st).2.2) :
    ∃ v' E' w', (Builtin.append_ #[t, t] ty #[v, xv]).run P w = .ok v' w' ∧ (evAppTo e sz bytes es news id st).1.rel E' w' v' ∧ StRel X E' (evAppTo e sz bytes es news id st).2.1 a w' := by
  obtain ⟨hb1, hb2⟩ := hO
  obtain ⟨hnl, A, c, ns, rfl, hns, hnsl, hnone, hA⟩ := src_real hs hdx hsrc
  have hml : maxLen = 9223372036854775807 := by decide
  have hcore : ∃ v' w', (Builtin.append_ #[t, t] ty #[v, .slice A news.length c]).run P w = .ok v' w' ∧ w'.ownsRow 0 e sz v' (es.length + news.length) (xs ++ ns) ∧ w.grownBy w' (blk v) ∧ (blk v' = blk v ∨ blk v' = some w.heap.size) := by
    rcases hA with ⟨rfl, rfl⟩ | ⟨ad, rfl, hcells⟩
    · obtain rfl : ns = [] := by simpa [relL] using hns
      exact ⟨v, w, run_append_none hu hi how c, by simpa using how, ⟨rfl, rfl, rfl, Nat.le_refl _, fun _ _ _ => rfl⟩, .inl rfl⟩
    · obtain ⟨v', w', h1, h2, h3, _, h5⟩ := run_append_own_at (P := P) w 0 t ty e i z sz bytes hu hi hz hsz hby hzs h0 v es.length xs how ad news.length c ns hnsl hcells hnone (by omega) hb1 (Nat.zero_le _)
      have hob : ∀ u : Value, (∃ A l c, u = .slice A l c) → u.ownBlock = blk u := by
        rintro u ⟨A, l, c, rfl⟩
        cases A <;> rfl
      have hvs : ∃ A l c, v = .slice A l c := by
        rcases how.2 with ⟨rfl, _⟩ | ⟨g, cap, cur, rfl, _⟩
        · exact ⟨_, _, _, rfl⟩
        · exact ⟨_, _, _, rfl⟩
      have hvs' : ∃ A l c, v' = .slice A l c := by
        rcases h2.2 with ⟨rfl, _⟩ | ⟨g, cap, cur, rfl, _⟩
        · exact ⟨_, _, _, rfl⟩
        · exact ⟨_, _, _, rfl⟩
      rw [hob v hvs] at h3 h5
      rw [hob v' hvs'] at h5
      exact ⟨v', w', h1, h2, h3, h5⟩
  obtain ⟨v', w', h1, h2, h3, h5⟩ := hcore
  have hform : ∃ A c, v' = .slice A (es.length + news.length) c := by
    rcases h2.2 with ⟨rfl, h0'⟩ | ⟨g, cap, cur, rfl, _⟩
    · exact ⟨none, 0, by rw [h0']⟩
    · exact ⟨_, _, rfl⟩
  obtain ⟨A', c', hv'⟩ := hform
  have hkeep : Keep E.I w (E.put id v').I w' := fun b hb => ⟨hb, h3.block b (hs.heap.bnd b hb) (fun e' => by
    obtain ⟨x, hx, hlv, hbb⟩ := hrow b e'.symm
    exact hs.heap.off id x b hx hlv hbb hb)⟩
  refine ⟨v', E.put id v', w', h1, ?_, hs.remap hpin hid (row := blk v) hrow h3 ?_ ?_⟩
  · simp only [evAppTo, DV.rel]
    exact ⟨A', es.length + news.length, c', by rw [Env.put_same, hv'], by simp, by rw [hv', List.length_append]⟩
  · refine ⟨xs ++ ns, by rw [Env.put_same, List.length_append]; exact h2, ?_, ?_, ?_⟩
    · rw [List.flatten_append]
      exact relL_append (relL_keep hkeep _ _ hxs) (relL_keep hkeep _ _ hns)
    · intro x hx
      rcases List.mem_append.1 hx with hx | hx
      · exact hl x hx
      · exact hnl x hx
    · intro u hu
      rcases List.mem_append.1 hu with hu | hu
      · exact hone u hu
      · exact hnone u hu
  · intro b hb
    rcases h5 with h5 | h5
    · exact .inr (by rw [← h5, hb])
    · rw [h5] at hb
      injection hb with hb
      omega
theorem append_ok {o : Oper} {t : TypeId} {s x : Operand} {h : Hint} {d : DV} {st' : St} {O : Prop} (ho : o.op = .call { callee := .builtin .append, args := #[s, x], argTypes := #[t, t] })
    (he : evAppend P t (evl st.tmps s) (evl st.tmps x) st h = some (d, st', O)) (hO : O) : OpOK P o st d st' := by
  refine val_op fun X E a w hs => ?_
  have hsv := evl_rel hs s
  have hxv := evl_rel hs x
  have fin : (∃ v' E' w', (Builtin.append_ #[t, t] o.type #[a.eval s, a.eval x]).run P w = .ok v' w' ∧ d.rel E' w' v' ∧ StRel X E' st' a w') → ∃ v' E' w', (execOp a.eval o).run P w = .ok (.value v') w' ∧ d.rel E' w' v' ∧ StRel X E' st' a w' := by
    rintro ⟨v', E', w', h1, h2, h3⟩
    refine ⟨v', E', w', bltn_exec ho ?_, h2, h3⟩
    simp only [builtin, List.map_toArray, List.map_cons, List.map_nil, Sem.run_bind, h1, Result.andThen_ok, Sem.run_pure]
  unfold evAppend at he
  split at he
  · rename_i e sz bytes z hz
    obtain ⟨i, hu, hi, hzz, hsz, hby, hzs⟩ := sliceZ_get hz
    split at he
    · rename_i k news hsrc
      split at he
      · rename_i id n hd
        rw [hd] at hsv
        split at he
        · rename_i e' sz' es hH
          split at he
          · rename_i hee hss hpin
            obtain rfl : e = e' := by simpa using hee
            obtain rfl : k.succ = sz' := by simpa using hss
            simp only [Option.some.injEq, Prod.mk.injEq] at he
            obtain ⟨rfl, rfl, rfl⟩ := he
            obtain ⟨hn, hO⟩ := hO
            obtain ⟨A, l, c, hm, hnl, hv⟩ := hsv
            have hob := hs.heap.ob id _ hH
            have hl := row_len hob hm
            obtain ⟨xs, how, hxs, hlen, hone⟩ := hob
            have hvm : a.eval s = E.mu id := by rw [hv, hm, hn, hl]
            rw [hvm] at fin
            refine fin (appTo_sound hs hu hi hzz hsz hby hzs (by omega) hpin (Nat.le_of_lt (List.getElem?_eq_some_iff.1 hH).1) how hxs hlen hone (fun b hb => ⟨_, hH, rfl, hb⟩) hxv hsrc hO)
          · cases he
        · cases he
      · rename_i id hd
        rw [hd] at hsv
        simp only [DV.rel, PD.rel] at hsv
        split at he
        · rename_i hid
          simp only [Option.some.injEq] at he
          have h1 : d = (evAppTo e k.succ bytes [] news id st).1 := by rw [he]
          have h2 : st' = (evAppTo e k.succ bytes [] news id st).2.1 := by rw [he]
          have h3 : O = (evAppTo e k.succ bytes [] news id st).2.2 := by rw [he]
          subst h1 h2 h3
          rw [hsv] at fin
          exact fin (appTo_sound hs hu hi hzz hsz hby hzs (by omega) (freeOb_pin hid) (freeOb_len hid) (World.ownsRow_nil w 0 e k.succ) (by simp [relL]) (by simp) (by simp) (fun b hb => by cases hb) hxv hsrc hO)
        · cases he
      · cases he
    · cases he
  · cases he
end
end Go.FI
