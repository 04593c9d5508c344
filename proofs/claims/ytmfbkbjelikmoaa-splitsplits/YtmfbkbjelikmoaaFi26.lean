import Derived.Test.YtmfbkbjelikmoaaFi25
namespace Go.FI
open Go.RowKit

/-! ### A range over a function -/
def exitOf (j : Option Code) : Option Exit :=
  match j with
  | none => some .normal
  | some .ret => some .ret
  | some (.exit id) => some (.exit id)
  | _ => none
def rec0 (P : Program) (st : St) (ps : List Tmp) (assign body : Code) : Rec := { nf := P.funcs.size, state := .ready, pending := none, tmps := st.tmps, params := ps, assign := assign, body := body }
theorem Marks.fresh {X : Ctx} {E : Env} {w : World} {H : List Ob} {D : Nat} (hD : w.heap.size ≤ D) : ∀ {l : List Deferred} {gs : List Gh}, Marks X E w H gs l → markOf D ∉ l
  | [], _, _ => by simp
  | d :: l, gs, h => by
    intro hm
    rcases List.mem_cons.1 hm with e | hm
    · rcases h with ⟨⟨D', hd, h'⟩, _, _⟩ | ⟨g, gs', _, hd, _⟩
      · have : (markOf D).target = (markOf D').target := by rw [e, hd]
        have hDD : D = D' := by simpa [markOf] using this
        have := (Array.getElem?_eq_some_iff.1 h'.here).1
        omega
      · have := congrArg Deferred.target (e.trans hd)
        simp [markOf, ghD] at this
    · rcases h with ⟨_, _, hl⟩ | ⟨g, gs', _, _, hl⟩
      · exact Marks.fresh hD hl hm
      · exact Marks.fresh hD hl hm
section
variable {P : Program}
theorem range_walk {g : Operand} {ps : Array Tmp} {assign body : Code} {st : St} {k : FuncId} {caps : List DV} {id : Nat} {ts1 : List DV} {H1 : List Ob} {Q : Exit → Act → World → Prop}
    (hf : callee (evl st.tmps g) = some (k, caps)) (hb : hasBody P k = true) (hid : freeOb st id = true) (hsay : saysL (· == id) st.tmps = false) (hcap : saysL (· == id) caps = false)
    (hst : st.putO id (.loop (rec0 P st ps.toList assign body)) = ⟨ts1, H1, st.pins⟩) {X : Ctx} {E : Env} {a : Act} {w : World} (hs : StRel X E st a w)
    (h : ∀ E1 b a1 w1 vs, E1.mu id = .pointer (some ⟨b, 0, none⟩) → StRel X E1 ⟨ts1, H1, st.pins⟩ a1 w1 → drelL E1 w1 (.yld id :: caps) vs.toList → Calls P k vs w1 (rangePostB P b Q a1)) : wpB none P (.rangeFunc g ps assign body) Q a w := by
  have hfv := evl_rel hs g
  have hfv' : ∃ cv : Array Value, a.eval g = .func (.func k) #[] cv ∧ drelL E w caps cv.toList := by
    unfold callee at hf
    split at hf
    · rename_i f' hd
      rw [hd] at hfv
      simp only [Option.some.injEq, Prod.mk.injEq] at hf
      obtain ⟨rfl, rfl⟩ := hf
      simp only [DV.rel, PD.rel] at hfv
      exact ⟨#[], hfv, by simp [drelL]⟩
    · rename_i f' cs hd
      rw [hd] at hfv
      simp only [Option.some.injEq, Prod.mk.injEq] at hf
      obtain ⟨rfl, rfl⟩ := hf
      simp only [DV.rel] at hfv
      exact hfv
    · cases hf
  obtain ⟨cv, hv, hcv⟩ := hfv'
  refine wpB_rangeFunc fun fn hfn => ?_
  let lp : Loop := { state := .ready, pending := none, fn, tmps := a.tmps, params := ps, assign, body, defers := w.heap.size }
  let w1 : World := (w.alloc (.deferred (some []))).alloc (.loop lp)
  have hsz : (w.alloc (.deferred (some []))).heap.size = w.heap.size + 1 := World.size_alloc _ _
  have hg1 : w.grownBy (w.alloc (.deferred (some []))) none := World.grownBy_alloc w _ none
  have hg2 : (w.alloc (.deferred (some []))).grownBy w1 none := World.grownBy_alloc _ _ none
  have hg : w.grownBy w1 none := ⟨hg2.os.trans hg1.os, hg2.tape.trans hg1.tape, hg2.output.trans hg1.output, Nat.le_trans hg1.size hg2.size, fun b hb' hn => (hg2.block b (by omega) hn).trans (hg1.block b hb' hn)⟩
  have hnewL : w1.heap[w.heap.size + 1]? = some (.loop lp) := by rw [← hsz]; exact World.alloc_heap_new _ _
  have hnewD : w1.heap[w.heap.size]? = some (.deferred (some [])) := (hg2.block _ (by omega) (by simp)).trans (World.alloc_heap_new _ _)
  let v1 : Value := .pointer (some ⟨w.heap.size + 1, 0, none⟩)
  have hob : (Ob.loop (rec0 P st ps.toList assign body)).rel (E.put id v1) w1 id := by
    refine ⟨_, lp, Env.put_same _ _ _, hnewL, ?_, rfl, rfl, rfl, rfl, rfl, hfn⟩
    have := drelL_fresh (id := id) (v := v1) hs hg hs.tmps
    rwa [saysL_scrub hsay] at this
  have hs1 := hs.fresh (w' := w1) (v := v1) hid hg hob (fun b hb' => by simp [v1, blk] at hb'; omega)
  rw [hst] at hs1
  have hmu : (E.put id v1).mu id = v1 := Env.put_same _ _ _
  have hmark : MarkOK X (E.put id v1) w1 H1 w.heap.size := by
    refine ⟨hnewD, hs.ctx.new _ hs.ctx.size, fun hI => Nat.lt_irrefl _ (hs.heap.bnd _ hI), fun i x hx hl hbb => ?_⟩
    have hH1 : (st.putO id (.loop (rec0 P st ps.toList assign body))).heap = H1 := by rw [hst]
    rw [← hH1] at hx
    simp only [St.putO] at hx
    rcases get_step (freeOb_len hid) i x hx with ⟨rfl, rfl⟩ | ⟨hi, y, hy, rfl⟩
    · rw [hmu] at hbb
      simp [v1, blk] at hbb
    · rw [Ob.scrub_live] at hl
      rw [Env.put_other _ _ hi] at hbb
      exact Nat.lt_irrefl _ (blk_lt (hs.heap.ob i y hy) hl hbb)
  have hs2 : StRel X (E.put id v1) ⟨ts1, H1, st.pins⟩ { a with defers := markOf w.heap.size :: a.defers } w1 :=
    ⟨hs1.tmps, .inl ⟨⟨_, rfl, hmark⟩, Marks.fresh (Nat.le_refl _) hs.defers, hs1.defers⟩, hs1.heap, hs1.ctx, hs1.pins⟩
  refine ⟨w.heap.size + 1, [markOf w.heap.size], w1, { target := .fn (.func k) cv, args := #[.func (.yield (w.heap.size + 1)) #[] #[]] }, w1, k, #[.func (.yield (w.heap.size + 1)) #[] #[]] ++ cv, w1, run_enterLoop_outer _ _ _ _ _, ?_, ?_, ?_⟩
  · simp only [resolve, hv, Deferred.ofValue]
    simp [Act.eval]
  · exact run_callFunc hb _ w1
  · refine h (E.put id v1) (w.heap.size + 1) { a with defers := markOf w.heap.size :: a.defers } w1 _ hmu hs2 ?_
    simp only [Array.toList_append, drelL, List.cons_append, List.nil_append]
    refine ⟨_, _, rfl, ⟨_, hmu, rfl⟩, ?_⟩
    have := drelL_fresh (id := id) (v := v1) hs hg hcv
    rwa [saysL_scrub hcap] at this
theorem range_ok {g : Operand} {ps : Array Tmp} {assign body : Code} {st : St} {k : FuncId} {caps : List DV} {id : Nat} {ts1 : List DV} {H1 H2 : List Ob} {res : DV} {scr : List Nat} {r2 : Rec} {ex : Exit}
    (hf : callee (evl st.tmps g) = some (k, caps)) (hb : hasBody P k = true) (hid : freeOb st id = true) (hsay : saysL (· == id) st.tmps = false) (hcap : saysL (· == id) caps = false)
    (hst : st.putO id (.loop (rec0 P st ps.toList assign body)) = ⟨ts1, H1, st.pins⟩) (hC : CallOK P k (.yld id :: caps) H1 res H2 (fun i => scr.contains i)) (hscr : scr.contains id = false) (hpin : scr.all (fun i => !pinned st.pins i) = true)
    (h2 : H2[id]? = some (.loop r2)) (hbusy : r2.state ≠ .busy) (hj : exitOf r2.pending = some ex) :
    Code0 P (.rangeFunc g ps assign body) st ex ⟨scrubs scr ts1, putOb H2 id (.loop { r2 with state := .exhausted }), st.pins⟩ := by
  intro r hr X E a w hs
  obtain rfl : r = none := hr rfl
  refine range_walk hf hb hid hsay hcap hst hs fun E1 b a1 w1 vs hm hs1 hvs => ?_
  refine (hC E1 w1 vs hs1.heap hvs).mono ?_
  rintro e w' ⟨v, E', rfl, _, hH2, fr⟩
  have hs2 := hs1.frm fr hH2 hpin
  have hm2 : E'.mu id = .pointer (some ⟨b, 0, none⟩) := (fr.mu id hscr).trans hm
  obtain ⟨l2, hl2, hst2, hpe2⟩ := rec_at hs2 h2 hm2
  have hs3 := hs2.setRec h2 hm2 hl2 .exhausted r2.pending
  refine ⟨_, _, run_endLoop hl2 (by rw [hst2]; exact hbusy), ?_⟩
  have hs3' : StRel X E' ⟨scrubs scr ts1, putOb H2 id (.loop { r2 with state := .exhausted }), st.pins⟩ a1 (w'.putObj b (.loop { l2 with state := .exhausted })) := by
    have e1 : { l2 with state := .exhausted } = { l2 with state := .exhausted, pending := r2.pending } := by rw [← hpe2]
    rw [e1]
    exact hs3
  have key : ∀ j, exitOf j = some ex → (match j with
       | none => Exit.normal = ex ∧ ∃ E', StRel X E' ⟨scrubs scr ts1, putOb H2 id (.loop { r2 with state := .exhausted }), st.pins⟩ a1 (w'.putObj b (.loop { l2 with state := .exhausted }))
       | some c => wpB none P c (fun e a' w' => e = ex ∧ ∃ E', StRel X E' ⟨scrubs scr ts1, putOb H2 id (.loop { r2 with state := .exhausted }), st.pins⟩ a' w') a1 (w'.putObj b (.loop { l2 with state := .exhausted }))) := by
    intro j hj
    unfold exitOf at hj
    split at hj
    · obtain rfl := Option.some.inj hj
      exact ⟨rfl, E', hs3'⟩
    · obtain rfl := Option.some.inj hj
      exact wpB_of (wpIn_ret ⟨rfl, E', hs3'⟩)
    · obtain rfl := Option.some.inj hj
      exact wpB_of (wpIn_exit ⟨rfl, E', hs3'⟩)
    · cases hj
  exact key _ (by rw [hpe2]; exact hj)
theorem rangex_ok {g : Operand} {ps : Array Tmp} {assign body : Code} {st : St} {k : FuncId} {caps : List DV} {id : Nat} {ts1 : List DV} {H1 H2 : List Ob} {ch : List PanicEntry} {scr : List Nat}
    (hf : callee (evl st.tmps g) = some (k, caps)) (hb : hasBody P k = true) (hid : freeOb st id = true) (hsay : saysL (· == id) st.tmps = false) (hcap : saysL (· == id) caps = false)
    (hst : st.putO id (.loop (rec0 P st ps.toList assign body)) = ⟨ts1, H1, st.pins⟩) (hC : CallX P k (.yld id :: caps) H1 ch H2 (fun i => scr.contains i)) (hpin : scr.all (fun i => !pinned st.pins i) = true) :
    Code0 P (.rangeFunc g ps assign body) st (.panic ch) ⟨scrubs scr ts1, H2, st.pins⟩ := by
  intro r hr X E a w hs
  obtain rfl : r = none := hr rfl
  refine range_walk hf hb hid hsay hcap hst hs fun E1 b a1 w1 vs _ hs1 hvs => ?_
  refine (hC E1 w1 vs hs1.heap hvs).mono ?_
  rintro e w' ⟨E', rfl, hH2, fr⟩
  exact ⟨rfl, E', hs1.frm fr hH2 hpin⟩
end
end Go.FI
