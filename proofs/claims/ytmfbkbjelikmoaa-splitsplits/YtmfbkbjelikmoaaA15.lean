import Derived.Test.YtmfbkbjelikmoaaA14
namespace Go.FI
open Go.Proofs.Try

theorem lastQ_off (mtu : Int) (o : List Int) : ∀ (f : Nat) (q : V4), q.off ≤ (lastQ mtu o f q).off
  | 0, _ => Int.le_refl _
  | f + 1, q => by
    unfold lastQ
    split
    · have := lastQ_off mtu o f (q.next (room mtu q.opts.length) o)
      have e : (q.next (room mtu q.opts.length) o).off = q.off + (room mtu q.opts.length : Int) / 8 := rfl
      rw [e] at this
      omega
    · exact Int.le_refl _
theorem go22_eq (p : V4) (mtu : Int) (hm : 68 ≤ mtu) (hpo : p.opts.length ≤ 40) (hp4 : p.opts.length % 4 = 0) : ∀ (f : Nat) (a : Int) (opts : List Int) (l : List V4), p.body.length ≤ a + f → 0 ≤ a → a ≤ p.body.length → a % 8 = 0 → opts.length ≤ 40 →
    (8191 < (lastQ mtu (copied p.opts) f (p.piece opts a (p.body.drop a.toNat) p.mf)).off → (go22 p mtu (f + 1) a opts l).2 = true) ∧
    ((lastQ mtu (copied p.opts) f (p.piece opts a (p.body.drop a.toNat) p.mf)).off ≤ 8191 → go22 p mtu (f + 1) a opts l = (l ++ firstL mtu (copied p.opts) f (p.piece opts a (p.body.drop a.toNat) p.mf) ++ [lastQ mtu (copied p.opts) f (p.piece opts a (p.body.drop a.toNat) p.mf)], false))
  | 0, a, opts, l, h1, h2, h3, h4, ho => by
    have hn : ¬ mtu - 20 - opts.length < p.body.length - a := by omega
    unfold go22 lastQ firstL
    rw [if_neg hn]
    constructor
    · intro h
      rw [if_neg (by show ¬ p.off + a / 8 ≤ 8191; have : 8191 < p.off + a / 8 := h; omega)]
    · intro h
      rw [if_pos (show p.off + a / 8 ≤ 8191 from h), List.append_nil]
  | f + 1, a, opts, l, h1, h2, h3, h4, ho => by
    obtain ⟨r1, r2, r3, r4⟩ := room_eq hm ho
    have hc := copied_len hp4
    have hsz : (p.piece opts a (p.body.drop a.toNat) p.mf).size = 20 + opts.length + ((p.body.length - a.toNat : Nat) : Int) := by
      show (20 : Int) + opts.length + (p.body.drop a.toNat).length = _
      rw [List.length_drop]
    unfold lastQ firstL
    rw [go22]
    by_cases hlt : mtu < (p.piece opts a (p.body.drop a.toNat) p.mf).size
    · rw [if_pos hlt, if_pos hlt, if_pos (show mtu - 20 - opts.length < p.body.length - a by omega)]
      have hnx : (p.piece opts a (p.body.drop a.toNat) p.mf).next (room mtu opts.length) (copied p.opts) = p.piece (copied p.opts) (a + room mtu opts.length) (p.body.drop (a + room mtu opts.length).toNat) p.mf := by
        have e1 : (a + (room mtu opts.length : Int)).toNat = a.toNat + room mtu opts.length := by omega
        have e2 : p.off + a / 8 + (room mtu opts.length : Int) / 8 = p.off + (a + room mtu opts.length) / 8 := by omega
        show ({ p with off := p.off + a / 8 + (room mtu opts.length : Int) / 8, opts := copied p.opts, body := (p.body.drop a.toNat).drop (room mtu opts.length), mf := p.mf } : V4) = _
        rw [e2, List.drop_drop, ← e1]
      have ih := go22_eq p mtu hm hpo hp4 f (a + room mtu opts.length) (copied p.opts) (l ++ [p.piece opts a ((p.body.drop a.toNat).take (room mtu opts.length)) true]) (by omega) (by omega) (by omega) (by omega) (by omega)
      have hmono := lastQ_off mtu (copied p.opts) f (p.piece (copied p.opts) (a + room mtu opts.length) (p.body.drop (a + room mtu opts.length).toNat) p.mf)
      have hoff : (p.piece (copied p.opts) (a + room mtu opts.length) (p.body.drop (a + room mtu opts.length).toNat) p.mf).off = p.off + (a + room mtu opts.length) / 8 := rfl
      rw [hoff] at hmono
      have hro : (p.piece opts a (p.body.drop a.toNat) p.mf).opts.length = opts.length := rfl
      rw [hro, hnx]
      constructor
      · intro h
        split
        · exact ih.1 h
        · rfl
      · intro h
        rw [if_pos (by omega), ih.2 h, List.append_assoc l]
        rfl
    · rw [if_neg hlt, if_neg hlt, if_neg (show ¬ mtu - 20 - opts.length < p.body.length - a by omega)]
      constructor
      · intro h
        rw [if_neg (by show ¬ p.off + a / 8 ≤ 8191; have : 8191 < p.off + a / 8 := h; omega)]
      · intro h
        rw [if_pos (show p.off + a / 8 ≤ 8191 from h), List.append_nil]
theorem R22_eq (p : V4) (mtu : Int) (hm : 68 ≤ mtu) (hpo : p.opts.length ≤ 40) (hp4 : p.opts.length % 4 = 0) :
    (8191 < (p.lastP mtu).off → (R22 p mtu).2 = true) ∧ ((p.lastP mtu).off ≤ 8191 → R22 p mtu = (p.firstP mtu ++ [p.lastP mtu], false)) := by
  have := go22_eq p mtu hm hpo hp4 p.body.length 0 p.opts [] (by omega) (by omega) (by omega) (by omega) hpo
  have e : p.piece p.opts 0 (p.body.drop (0 : Int).toNat) p.mf = p := by
    show ({ p with off := p.off + 0 / 8, opts := p.opts, body := p.body, mf := p.mf } : V4) = p
    simp
  rw [e] at this
  simpa using this
theorem fls {b : Bool} (h : b = false) : ¬ b = true := by simp [h]
theorem nvT (l : List V4) : PD.ds 17 (List.take l.length (vl l)) = nv l := by rw [← vl_length l, List.take_length]
theorem f5_ok (p : V4) (mtu : Int) (hp : Byt p.opts) (ho : p.opts.length ≤ 1000000) (hb : p.body.length ≤ 1000000) : CallP prog 5 [p.pd, ni mtu] (.tup [nv (p.split mtu), ni (p.fail mtu)]) := by
  unfold V4.split V4.fail
  by_cases h : p.why mtu = 0
  · rw [if_pos h, if_pos h]
    obtain ⟨hc, hm, hm'⟩ := V4.why0 h
    obtain ⟨c1, c2, c3, c4, c5⟩ := V4.chk0 hc
    have rg := rg5 p mtu hp c3 c4 (by omega) hm hm' c1 c2
    have hR := R22_eq p mtu hm c3 c4
    by_cases h5 : 8191 < (p.lastP mtu).off
    · refine f5_b p mtu (R22 p mtu).1 (rg.2 (hR.1 h5)) h ho hb (fun h1 k => ?_) (fun h1 h2 k => ?_) (fun h1 h2 h3 h4 k => ?_) (fun h1 h2 h3 h4 k => ?_) (fun h1 h2 h3 k => ?_)
      · rw [if_pos h1, if_pos h1]; exact k
      · rw [if_neg (fls h1), if_neg (fls h1), if_pos h2, if_pos h2]; exact k.tupNil
      · rw [if_neg (fls h1), if_neg (fls h1), if_neg (fls h2), if_neg (fls h2), if_neg (show ¬ (p.mf = true ∧ ¬ p.body.length % 8 = 0) from fun hh => hh.2 (by omega)), if_neg (show ¬ (p.mf = true ∧ ¬ p.body.length % 8 = 0) from fun hh => hh.2 (by omega)), if_pos h5, if_pos h5]; exact k.tupNil
      · rw [if_neg (fls h1), if_neg (fls h1), if_neg (fls h2), if_neg (fls h2), if_pos (show p.mf = true ∧ ¬ p.body.length % 8 = 0 from ⟨h3, by omega⟩), if_pos (show p.mf = true ∧ ¬ p.body.length % 8 = 0 from ⟨h3, by omega⟩)]; exact k.tupNil
      · rw [if_neg (fls h1), if_neg (fls h1), if_neg (fls h2), if_neg (fls h2), if_neg (show ¬ (p.mf = true ∧ ¬ p.body.length % 8 = 0) from fun hh => fls h3 hh.1), if_neg (show ¬ (p.mf = true ∧ ¬ p.body.length % 8 = 0) from fun hh => fls h3 hh.1), if_pos h5, if_pos h5]; exact k.tupNil
    · have hR2 := hR.2 (by omega)
      rw [hR2] at rg
      refine f5_a p mtu (p.firstP mtu ++ [p.lastP mtu]) (rg.1 rfl) h ho hb (fun h1 k => ?_) (fun h1 h2 k => ?_) (fun h1 h2 h3 h4 k => ?_) (fun h1 h2 h3 h4 k => ?_) (fun h1 h2 h3 k => ?_)
      · rw [if_pos h1, if_pos h1]; exact k
      · rw [if_neg (fls h1), if_neg (fls h1), if_pos h2, if_pos h2]; exact k.tupNil
      · rw [if_neg (fls h1), if_neg (fls h1), if_neg (fls h2), if_neg (fls h2), if_neg (show ¬ (p.mf = true ∧ ¬ p.body.length % 8 = 0) from fun hh => hh.2 (by omega)), if_neg (show ¬ (p.mf = true ∧ ¬ p.body.length % 8 = 0) from fun hh => hh.2 (by omega)), if_neg h5, if_neg h5, ← nvT]; exact k
      · rw [if_neg (fls h1), if_neg (fls h1), if_neg (fls h2), if_neg (fls h2), if_pos (show p.mf = true ∧ ¬ p.body.length % 8 = 0 from ⟨h3, by omega⟩), if_pos (show p.mf = true ∧ ¬ p.body.length % 8 = 0 from ⟨h3, by omega⟩)]; exact k.tupNil
      · rw [if_neg (fls h1), if_neg (fls h1), if_neg (fls h2), if_neg (fls h2), if_neg (show ¬ (p.mf = true ∧ ¬ p.body.length % 8 = 0) from fun hh => fls h3 hh.1), if_neg (show ¬ (p.mf = true ∧ ¬ p.body.length % 8 = 0) from fun hh => fls h3 hh.1), if_neg h5, if_neg h5, ← nvT]; exact k
  · rw [if_neg h, if_neg h]
    exact f5_c p mtu h fun k => k.tupNil

theorem f7_ok (p : V4) (mtu : Int) (hp : Byt p.opts) (ho : p.opts.length ≤ 1000000) (hb : p.body.length ≤ 1000000) : CallP prog 7 [p.pd, ni mtu] (.tup [ni (p.split mtu).length, ni (p.fail mtu)]) := by
  have h_run : runF prog [⟨1, 2, Hint.cp (PD.tup [nv (p.split mtu), ni (p.fail mtu)]), .n⟩] [] 7 [p.pd, ni mtu] = some (PD.tup [PD.int IntKind.i64 (↑(vl (p.split mtu)).length : Int), PD.int IntKind.i64 (p.fail mtu)], [17 = 17, CallP prog 5 [PD.agg [PD.int IntKind.u8 p.tos, PD.int IntKind.u16 p.id, PD.bool p.df, PD.bool p.mf, PD.int IntKind.i64 p.off, PD.int IntKind.u8 p.ttl, PD.int IntKind.u8 p.proto, PD.int IntKind.u8 p.s0, PD.int IntKind.u8 p.s1, PD.int IntKind.u8 p.s2, PD.int IntKind.u8 p.s3, PD.int IntKind.u8 p.d0, PD.int IntKind.u8 p.d1, PD.int IntKind.u8 p.d2, PD.int IntKind.u8 p.d3, PD.ds 1 (bl p.opts), PD.ds 1 (bl p.body)], PD.int IntKind.i64 mtu] (PD.tup [PD.ds 17 (vl (p.split mtu)), PD.int IntKind.i64 (p.fail mtu)])]) := by kernel_rfl
  refine runF_to h_run ?_ ?_
  · clear h_run
    exact ⟨by first | omega | exact dbb (by assumption) | (simp; done) | assumption, (f5_ok (p) (mtu) (by first | assumption | omega | simp) (by first | assumption | omega | simp) (by first | assumption | omega | simp)), trivial⟩
  · clear h_run
    rw [vl_length]

end Go.FI
