import Derived.Test.YtmfbkbjelikmoaaA7
namespace Go.FI
open Go.Proofs.Try

def room (mtu : Int) (o : Nat) : Nat := ((mtu - 20 - o) / 8 * 8).toNat
abbrev V4.first (q : V4) (r : Nat) : V4 := { q with body := q.body.take r, mf := true }
abbrev V4.next (q : V4) (r : Nat) (o : List Int) : V4 := { q with body := q.body.drop r, off := q.off + r / 8, opts := o }
theorem vl_snoc (l : List V4) (x : V4) : vl (l ++ [x]) = vl l ++ [x.cells] := by simp [vl]
theorem len_snoc (l : List V4) (x : V4) : (l ++ [x]).length = (vl l ++ [x.cells]).length := by simp [vl]
abbrev S6 (p q : V4) (l : List V4) (mtu : Int) : St := ⟨slots 81 [(1, .pd (ni mtu)), (2, .ptr 0 0), (8, .sl 1 l.length), (9, .ptr 2 0)], [.cells 27 (p.cells.map .pd), .row 27 17 (vl l), .cells 27 (q.cells.map .pd)], []⟩
abbrev B6 (P : Program) : Code := loopBody (fcode P 6 0 12)

theorem c6_end (p q : V4) (l : List V4) (mtu : Int) (ho : q.opts.length ≤ 1000000) (hb : q.body.length ≤ 1000000) (h : ¬ mtu < q.size) : CodeOK prog (B6 prog) (S6 p q l mtu) (Exit.exit 0) (S6 p q l mtu) := by
  have h_run : exMask (evCode prog [⟨12, 1, .cp (ni q.size), .n⟩, ⟨12, 3, .n, ff⟩] [] (B6 prog) (S6 p q l mtu)) [1, 2, 8, 9] 3 = .yes (Exit.exit 0) ⟨slots 81 [(1, DV.pd (PD.int IntKind.i64 mtu)), (2, DV.ptr 0 0), (8, DV.sl 1 l.length), (9, DV.ptr 2 0)], [Ob.cells 27 [DV.pd (PD.int IntKind.u8 p.tos), DV.pd (PD.int IntKind.u16 p.id), DV.pd (PD.bool p.df), DV.pd (PD.bool p.mf), DV.pd (PD.int IntKind.i64 p.off), DV.pd (PD.int IntKind.u8 p.ttl), DV.pd (PD.int IntKind.u8 p.proto), DV.pd (PD.int IntKind.u8 p.s0), DV.pd (PD.int IntKind.u8 p.s1), DV.pd (PD.int IntKind.u8 p.s2), DV.pd (PD.int IntKind.u8 p.s3), DV.pd (PD.int IntKind.u8 p.d0), DV.pd (PD.int IntKind.u8 p.d1), DV.pd (PD.int IntKind.u8 p.d2), DV.pd (PD.int IntKind.u8 p.d3), DV.pd (PD.ds 1 (bl p.opts)), DV.pd (PD.ds 1 (bl p.body))], Ob.row 27 17 (vl l), Ob.cells 27 [DV.pd (PD.int IntKind.u8 q.tos), DV.pd (PD.int IntKind.u16 q.id), DV.pd (PD.bool q.df), DV.pd (PD.bool q.mf), DV.pd (PD.int IntKind.i64 q.off), DV.pd (PD.int IntKind.u8 q.ttl), DV.pd (PD.int IntKind.u8 q.proto), DV.pd (PD.int IntKind.u8 q.s0), DV.pd (PD.int IntKind.u8 q.s1), DV.pd (PD.int IntKind.u8 q.s2), DV.pd (PD.int IntKind.u8 q.s3), DV.pd (PD.int IntKind.u8 q.d0), DV.pd (PD.int IntKind.u8 q.d1), DV.pd (PD.int IntKind.u8 q.d2), DV.pd (PD.int IntKind.u8 q.d3), DV.pd (PD.ds 1 (bl q.opts)), DV.pd (PD.ds 1 (bl q.body))]], []⟩ [17 = 17, CallP prog 16 [PD.agg [PD.int IntKind.u8 q.tos, PD.int IntKind.u16 q.id, PD.bool q.df, PD.bool q.mf, PD.int IntKind.i64 q.off, PD.int IntKind.u8 q.ttl, PD.int IntKind.u8 q.proto, PD.int IntKind.u8 q.s0, PD.int IntKind.u8 q.s1, PD.int IntKind.u8 q.s2, PD.int IntKind.u8 q.s3, PD.int IntKind.u8 q.d0, PD.int IntKind.u8 q.d1, PD.int IntKind.u8 q.d2, PD.int IntKind.u8 q.d3, PD.ds 1 (bl q.opts), PD.ds 1 (bl q.body)]] (PD.int IntKind.i64 q.size), True, DV.pd (PD.bool (decide (q.size > mtu))) = DV.pd (PD.bool false)] := by kernel_rfl
  refine (code_mask [1, 2, 8, 9] 3 h_run ?_).to ?_
  · clear h_run
    exact ⟨by first | omega | simp, f16_ok q ho hb, trivial, by first | exact dff (by omega) | simp, trivial⟩
  · clear h_run
    rfl

theorem c6_round (p q : V4) (l : List V4) (mtu : Int) (r : Nat) (hp : ∀ x ∈ p.opts, 0 ≤ x ∧ x ≤ 255) (hpl : p.opts.length ≤ 1000000) (ho : q.opts.length ≤ 40) (hb : q.body.length ≤ 1000000) (h : mtu < q.size) (hm : 68 ≤ mtu) (hm' : mtu ≤ 65535) (hr : (mtu - 20 - q.opts.length) / 8 * 8 = r) (hrb : r ≤ q.body.length) (hf : 0 ≤ q.off) (hf' : q.off ≤ 1000000) (hl : l.length ≤ 1000000) : CodeOK prog (B6 prog) (S6 p q l mtu) (Exit.normal) (S6 p (q.next r (copied p.opts)) (l ++ [q.first r]) mtu) := by
  have h_run : exMask (evCode prog [⟨12, 1, .cp (ni q.size), .n⟩, ⟨12, 3, .n, tt⟩, ⟨13, 7, .n, .eq (.pd (ni r))⟩, ⟨15, 3, .n, .eq (.pd (nb (q.body.take r)))⟩, ⟨18, 3, .n, .eq (.pd (nb (q.body.drop r)))⟩, ⟨20, 2, .cp (nb (copied p.opts)), .n⟩] [] (B6 prog) (S6 p q l mtu)) [1, 2, 8, 9] 3 = .yes (Exit.normal) ⟨slots 81 [(1, DV.pd (PD.int IntKind.i64 mtu)), (2, DV.ptr 0 0), (8, DV.sl 1 (vl l ++ [[PD.int IntKind.u8 q.tos, PD.int IntKind.u16 q.id, PD.bool q.df, PD.bool true, PD.int IntKind.i64 q.off, PD.int IntKind.u8 q.ttl, PD.int IntKind.u8 q.proto, PD.int IntKind.u8 q.s0, PD.int IntKind.u8 q.s1, PD.int IntKind.u8 q.s2, PD.int IntKind.u8 q.s3, PD.int IntKind.u8 q.d0, PD.int IntKind.u8 q.d1, PD.int IntKind.u8 q.d2, PD.int IntKind.u8 q.d3, PD.ds 1 (bl q.opts), PD.ds 1 (bl (List.take r q.body))]]).length), (9, DV.ptr 2 0)], [Ob.cells 27 [DV.pd (PD.int IntKind.u8 p.tos), DV.pd (PD.int IntKind.u16 p.id), DV.pd (PD.bool p.df), DV.pd (PD.bool p.mf), DV.pd (PD.int IntKind.i64 p.off), DV.pd (PD.int IntKind.u8 p.ttl), DV.pd (PD.int IntKind.u8 p.proto), DV.pd (PD.int IntKind.u8 p.s0), DV.pd (PD.int IntKind.u8 p.s1), DV.pd (PD.int IntKind.u8 p.s2), DV.pd (PD.int IntKind.u8 p.s3), DV.pd (PD.int IntKind.u8 p.d0), DV.pd (PD.int IntKind.u8 p.d1), DV.pd (PD.int IntKind.u8 p.d2), DV.pd (PD.int IntKind.u8 p.d3), DV.pd (PD.ds 1 (bl p.opts)), DV.pd (PD.ds 1 (bl p.body))], Ob.row 27 17 (vl l ++ [[PD.int IntKind.u8 q.tos, PD.int IntKind.u16 q.id, PD.bool q.df, PD.bool true, PD.int IntKind.i64 q.off, PD.int IntKind.u8 q.ttl, PD.int IntKind.u8 q.proto, PD.int IntKind.u8 q.s0, PD.int IntKind.u8 q.s1, PD.int IntKind.u8 q.s2, PD.int IntKind.u8 q.s3, PD.int IntKind.u8 q.d0, PD.int IntKind.u8 q.d1, PD.int IntKind.u8 q.d2, PD.int IntKind.u8 q.d3, PD.ds 1 (bl q.opts), PD.ds 1 (bl (List.take r q.body))]]), Ob.cells 27 [DV.pd (PD.int IntKind.u8 q.tos), DV.pd (PD.int IntKind.u16 q.id), DV.pd (PD.bool q.df), DV.pd (PD.bool q.mf), DV.pd (PD.int IntKind.i64 (q.off + (↑r : Int) / (8 : Int))), DV.pd (PD.int IntKind.u8 q.ttl), DV.pd (PD.int IntKind.u8 q.proto), DV.pd (PD.int IntKind.u8 q.s0), DV.pd (PD.int IntKind.u8 q.s1), DV.pd (PD.int IntKind.u8 q.s2), DV.pd (PD.int IntKind.u8 q.s3), DV.pd (PD.int IntKind.u8 q.d0), DV.pd (PD.int IntKind.u8 q.d1), DV.pd (PD.int IntKind.u8 q.d2), DV.pd (PD.int IntKind.u8 q.d3), DV.pd (PD.ds 1 (bl (copied p.opts))), DV.pd (PD.ds 1 (bl (List.drop r q.body)))]], []⟩ [17 = 17, CallP prog 16 [PD.agg [PD.int IntKind.u8 q.tos, PD.int IntKind.u16 q.id, PD.bool q.df, PD.bool q.mf, PD.int IntKind.i64 q.off, PD.int IntKind.u8 q.ttl, PD.int IntKind.u8 q.proto, PD.int IntKind.u8 q.s0, PD.int IntKind.u8 q.s1, PD.int IntKind.u8 q.s2, PD.int IntKind.u8 q.s3, PD.int IntKind.u8 q.d0, PD.int IntKind.u8 q.d1, PD.int IntKind.u8 q.d2, PD.int IntKind.u8 q.d3, PD.ds 1 (bl q.opts), PD.ds 1 (bl q.body)]] (PD.int IntKind.i64 q.size), True, DV.pd (PD.bool (decide (q.size > mtu))) = DV.pd (PD.bool true), inR IntKind.i64 (mtu - (20 : Int)), True, inR IntKind.i64 (mtu - (20 : Int) - (↑(bl q.opts).length : Int)), (0 : Int) ≤ mtu - (20 : Int) - (↑(bl q.opts).length : Int) ∧ (0 : Int) < (8 : Int) ∧ mtu - (20 : Int) - (↑(bl q.opts).length : Int) ≤ IntKind.i64.max, inR IntKind.i64 ((mtu - (20 : Int) - (↑(bl q.opts).length : Int)) / (8 : Int) * (8 : Int)), DV.pd (PD.int IntKind.i64 ((mtu - (20 : Int) - (↑(bl q.opts).length : Int)) / (8 : Int) * (8 : Int))) = DV.pd (PD.int IntKind.i64 (↑r : Int)), 17 = 17, True, True, (0 : Int) ≤ (↑r : Int) ∧ (↑r : Int) ≤ (↑(bl q.body).length : Int), DV.pd (PD.ds 1 (List.take (↑r : Int).toNat (bl q.body))) = DV.pd (PD.ds 1 (bl (List.take r q.body))), True, True, 17 = 17, l.length = (vl l).length ∧ ((vl l).length + 1) * 80 ≤ 140737488355328 ∧ (vl l).length + 1 ≤ 9223372036854775807, True, (0 : Int) ≤ (↑r : Int) ∧ (↑r : Int) ≤ (↑(bl q.body).length : Int), DV.pd (PD.ds 1 (List.drop (↑r : Int).toNat (bl q.body))) = DV.pd (PD.ds 1 (bl (List.drop r q.body))), True, True, (0 : Int) ≤ (↑r : Int) ∧ (0 : Int) < (8 : Int) ∧ (↑r : Int) ≤ IntKind.i64.max, inR IntKind.i64 (q.off + (↑r : Int) / (8 : Int)), True, True, CallP prog 17 [PD.ds 1 (bl p.opts)] (PD.ds 1 (bl (copied p.opts))), True] := by kernel_rfl
  refine (code_mask [1, 2, 8, 9] 3 h_run ?_).to ?_
  · clear h_run
    have e0 := bl_length q.opts
    have e1 := bl_length q.body
    have e2 := vl_length l
    exact ⟨by first | omega | simp, f16_ok q (by omega) hb, trivial, by first | exact dtt (by omega) | simp, inR64.2 (by omega), trivial, inR64.2 (by omega), by rw [i64max]; omega, inR64.2 (by omega), dii (by omega), by first | omega | simp, trivial, trivial, by first | omega | simp, by first | exact bcutT _ _ | exact bcutD _ _ | exact bcutTD _ _ _ | exact bcutTi _ _ | exact bcutDi _ _, trivial, trivial, by first | omega | simp, by first | omega | simp, trivial, by first | omega | simp, by first | exact bcutT _ _ | exact bcutD _ _ | exact bcutTD _ _ _ | exact bcutTi _ _ | exact bcutDi _ _, trivial, trivial, by rw [i64max]; omega, inR64.2 (by omega), trivial, trivial, f17_ok p.opts hp hpl, trivial, trivial⟩
  · clear h_run
    unfold S6
    rw [vl_snoc, len_snoc]
    kernel_rfl


/-- The fragments of a datagram, from what is left of it. -/
def frags (mtu : Int) (o : List Int) : Nat → V4 → List V4
  | 0, q => [q]
  | f + 1, q => if mtu < q.size then q.first (room mtu q.opts.length) :: frags mtu o f (q.next (room mtu q.opts.length) o) else [q]
theorem room_eq {mtu : Int} {o : Nat} (h : 68 ≤ mtu) (ho : o ≤ 40) : (mtu - 20 - o) / 8 * 8 = (room mtu o : Int) ∧ 8 ≤ room mtu o ∧ (room mtu o : Int) ≤ mtu - 20 - o ∧ room mtu o % 8 = 0 := by
  unfold room
  omega
theorem padN_len : ∀ (f : Nat) (out : List Int) (n : Nat), out.length ≤ n → n % 4 = 0 → (padN f out).length ≤ n
  | 0, out, n, h, _ => h
  | f + 1, out, n, h, hn => by
    unfold padN
    split
    · exact h
    · exact padN_len f _ n (by rw [List.length_append, List.length_singleton]; omega) hn
theorem copied_len {xs : List Int} (h : xs.length % 4 = 0) : (copied xs).length ≤ xs.length := by
  unfold copied
  exact padN_len 3 _ _ (cop_len xs xs.length 0 [] (by omega) (by simp)) h
/-- What is left when nothing more is cut off; and the fragments ahead of it. -/
def lastQ (mtu : Int) (o : List Int) : Nat → V4 → V4
  | 0, q => q
  | f + 1, q => if mtu < q.size then lastQ mtu o f (q.next (room mtu q.opts.length) o) else q
def firstL (mtu : Int) (o : List Int) : Nat → V4 → List V4
  | 0, _ => []
  | f + 1, q => if mtu < q.size then q.first (room mtu q.opts.length) :: firstL mtu o f (q.next (room mtu q.opts.length) o) else []
theorem frags_eq (mtu : Int) (o : List Int) : ∀ (f : Nat) (q : V4), frags mtu o f q = firstL mtu o f q ++ [lastQ mtu o f q]
  | 0, q => rfl
  | f + 1, q => by
    unfold frags firstL lastQ
    split
    · rw [frags_eq mtu o f]; rfl
    · rfl
theorem loop6 (p : V4) (mtu : Int) (hp : ∀ x ∈ p.opts, 0 ≤ x ∧ x ≤ 255) (hpl : p.opts.length ≤ 40) (hp4 : p.opts.length % 4 = 0) (hm : 68 ≤ mtu) (hm' : mtu ≤ 65535) : ∀ (f : Nat) (q : V4) (l : List V4),
    q.body.length ≤ f → q.opts.length ≤ 40 → 0 ≤ q.off → q.off + q.body.length ≤ 100000 → l.length + q.body.length ≤ 100000 →
    LoopOK prog (B6 prog) (S6 p q l mtu) (.exit 0) (S6 p (lastQ mtu (copied p.opts) f q) (l ++ firstL mtu (copied p.opts) f q) mtu)
  | 0, q, l, hf, ho, h0, h1, h2 => by
    have hs : ¬ mtu < q.size := by unfold V4.size; omega
    unfold lastQ firstL
    rw [List.append_nil]
    exact .out (c6_end p q l mtu (by omega) (by omega) hs) (by simp)
  | f + 1, q, l, hf, ho, h0, h1, h2 => by
    unfold lastQ firstL
    split
    · rename_i h
      obtain ⟨r1, r2, r3, r4⟩ := room_eq hm ho
      have hs : q.size = 20 + q.opts.length + q.body.length := rfl
      have hc := copied_len hp4
      have hd : (q.next (room mtu q.opts.length) (copied p.opts)).body.length = q.body.length - room mtu q.opts.length := List.length_drop
      have := loop6 p mtu hp hpl hp4 hm hm' f (q.next (room mtu q.opts.length) (copied p.opts)) (l ++ [q.first (room mtu q.opts.length)]) (by omega) (show (copied p.opts).length ≤ 40 by omega) (show 0 ≤ q.off + (room mtu q.opts.length : Int) / 8 by omega)
        (by show q.off + (room mtu q.opts.length : Int) / 8 + _ ≤ _; omega) (by rw [List.length_append, List.length_singleton]; omega)
      rw [List.append_assoc] at this
      exact .step (c6_round p q l mtu (room mtu q.opts.length) hp (by omega) ho (by omega) h hm hm' r1 (by omega) h0 (by omega) (by omega)) this
    · rename_i h
      rw [List.append_nil]
      exact .out (c6_end p q l mtu (by omega) (by omega) h) (by simp)
end Go.FI
