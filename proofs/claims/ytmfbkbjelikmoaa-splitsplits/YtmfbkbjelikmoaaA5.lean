import Derived.Test.YtmfbkbjelikmoaaA4
namespace Go.FI
open Go.Proofs.Try

theorem V4.chk0 {p : V4} (h : p.chk = 0) : 0 ≤ p.off ∧ p.off ≤ 8191 ∧ p.opts.length ≤ 40 ∧ p.opts.length % 4 = 0 ∧ p.opts.length + p.body.length ≤ 65515 := by
  unfold V4.chk at h
  split at h
  · omega
  · split at h <;> omega
/-- Why there are no fragments. -/
def V4.why (p : V4) (mtu : Int) : Int := if p.chk = 0 then if mtu < 68 ∨ 65535 < mtu then 131 else 0 else p.chk
def V4.fits (p : V4) (mtu : Int) : Bool := decide (p.why mtu = 0 ∧ p.size ≤ mtu)

theorem f16_ok (p : V4) (ho : p.opts.length ≤ 1000000) (hb : p.body.length ≤ 1000000) : CallP prog 16 [p.pd] (ni p.size) := by
  have h_run : runF prog [] [] 16 [p.pd] = some (PD.int IntKind.i64 ((20 : Int) + (↑(bl p.opts).length : Int) + (↑(bl p.body).length : Int)), [True, inR IntKind.i64 ((20 : Int) + (↑(bl p.opts).length : Int)), True, inR IntKind.i64 ((20 : Int) + (↑(bl p.opts).length : Int) + (↑(bl p.body).length : Int))]) := by kernel_rfl
  refine runF_to h_run ?_ ?_
  · clear h_run
    have e0 := bl_length p.opts
    have e1 := bl_length p.body
    exact ⟨trivial, inR64.2 (by omega), trivial, inR64.2 (by omega), trivial⟩
  · clear h_run
    rw [bl_length, bl_length]
    rfl


theorem f20_0 (p : V4) (h : ¬ p.chk = 0) : CallP prog 20 [p.pd] (.tup [ni 0, ni 0, ni p.chk]) := by
  have h_run : runF prog [⟨1, 1, .cp (ni p.chk), .n⟩, ⟨2, 1, .n, tt⟩] [] 20 [p.pd] = some (PD.tup [PD.int IntKind.i64 (0 : Int), PD.int IntKind.i64 (0 : Int), PD.int IntKind.i64 p.chk], [17 = 17, CallP prog 25 [PD.agg [PD.int IntKind.u8 p.tos, PD.int IntKind.u16 p.id, PD.bool p.df, PD.bool p.mf, PD.int IntKind.i64 p.off, PD.int IntKind.u8 p.ttl, PD.int IntKind.u8 p.proto, PD.int IntKind.u8 p.s0, PD.int IntKind.u8 p.s1, PD.int IntKind.u8 p.s2, PD.int IntKind.u8 p.s3, PD.int IntKind.u8 p.d0, PD.int IntKind.u8 p.d1, PD.int IntKind.u8 p.d2, PD.int IntKind.u8 p.d3, PD.ds 1 (bl p.opts), PD.ds 1 (bl p.body)]] (PD.int IntKind.i64 p.chk), True, DV.pd (PD.bool (p.chk != (0 : Int))) = DV.pd (PD.bool true)]) := by kernel_rfl
  refine runF_to h_run ?_ ?_
  · clear h_run
    exact ⟨by omega, f25_ok p, trivial, dnT (by omega), trivial⟩
  · clear h_run
    rfl


theorem f20_1 (p : V4) (h : p.chk = 0) (ho : p.opts.length ≤ 1000000) (hb : p.body.length ≤ 1000000) : CallP prog 20 [p.pd] (.tup [ni p.size, ni (20 + p.opts.length), ni 0]) := by
  have h_run : runF prog [⟨1, 1, .cp (ni p.chk), .n⟩, ⟨2, 1, .n, ff⟩] [] 20 [p.pd] = some (PD.tup [PD.int IntKind.i64 ((20 : Int) + (↑(bl p.opts).length : Int) + (↑(bl p.body).length : Int)), PD.int IntKind.i64 ((20 : Int) + (↑(bl p.opts).length : Int)), PD.int IntKind.i64 (0 : Int)], [17 = 17, CallP prog 25 [PD.agg [PD.int IntKind.u8 p.tos, PD.int IntKind.u16 p.id, PD.bool p.df, PD.bool p.mf, PD.int IntKind.i64 p.off, PD.int IntKind.u8 p.ttl, PD.int IntKind.u8 p.proto, PD.int IntKind.u8 p.s0, PD.int IntKind.u8 p.s1, PD.int IntKind.u8 p.s2, PD.int IntKind.u8 p.s3, PD.int IntKind.u8 p.d0, PD.int IntKind.u8 p.d1, PD.int IntKind.u8 p.d2, PD.int IntKind.u8 p.d3, PD.ds 1 (bl p.opts), PD.ds 1 (bl p.body)]] (PD.int IntKind.i64 p.chk), True, DV.pd (PD.bool (p.chk != (0 : Int))) = DV.pd (PD.bool false), True, inR IntKind.i64 ((20 : Int) + (↑(bl p.opts).length : Int)), True, inR IntKind.i64 ((20 : Int) + (↑(bl p.opts).length : Int) + (↑(bl p.body).length : Int))]) := by kernel_rfl
  refine runF_to h_run ?_ ?_
  · clear h_run
    have e0 := bl_length p.opts
    have e1 := bl_length p.body
    exact ⟨by omega, f25_ok p, trivial, dnF (by omega), trivial, inR64.2 (by omega), trivial, inR64.2 (by omega), trivial⟩
  · clear h_run
    rw [bl_length, bl_length]
    rfl


theorem f13_0 (p : V4) (mtu : Int) (h : ¬ p.chk = 0) : CallP prog 13 [p.pd, ni mtu] (.tup [.bool (p.fits mtu), ni (p.why mtu)]) := by
  have h_run : runF prog [⟨1, 1, .cp (.tup [ni 0, ni 0, ni p.chk]), .n⟩, ⟨2, 1, .n, tt⟩] [] 13 [p.pd, ni mtu] = some (PD.tup [PD.bool false, PD.int IntKind.i64 p.chk], [17 = 17, CallP prog 20 [PD.agg [PD.int IntKind.u8 p.tos, PD.int IntKind.u16 p.id, PD.bool p.df, PD.bool p.mf, PD.int IntKind.i64 p.off, PD.int IntKind.u8 p.ttl, PD.int IntKind.u8 p.proto, PD.int IntKind.u8 p.s0, PD.int IntKind.u8 p.s1, PD.int IntKind.u8 p.s2, PD.int IntKind.u8 p.s3, PD.int IntKind.u8 p.d0, PD.int IntKind.u8 p.d1, PD.int IntKind.u8 p.d2, PD.int IntKind.u8 p.d3, PD.ds 1 (bl p.opts), PD.ds 1 (bl p.body)]] (PD.tup [PD.int IntKind.i64 (0 : Int), PD.int IntKind.i64 (0 : Int), PD.int IntKind.i64 p.chk]), True, DV.pd (PD.bool (p.chk != (0 : Int))) = DV.pd (PD.bool true)]) := by kernel_rfl
  refine runF_to h_run ?_ ?_
  · clear h_run
    exact ⟨by omega, f20_0 p h, trivial, dnT (by omega), trivial⟩
  · clear h_run
    unfold V4.fits V4.why
    rw [if_neg h, decide_eq_false (fun hh => h hh.1)]


theorem f13_1 (p : V4) (mtu : Int) (h : p.chk = 0) (h1 : mtu < 68) : CallP prog 13 [p.pd, ni mtu] (.tup [.bool (p.fits mtu), ni (p.why mtu)]) := by
  have h_run : runF prog [⟨1, 1, .cp (.tup [ni p.size, ni (20 + p.opts.length), ni 0]), .n⟩, ⟨2, 1, .n, ff⟩, ⟨4, 1, .n, tt⟩] [] 13 [p.pd, ni mtu] = some (PD.tup [PD.bool false, PD.int IntKind.i64 (131 : Int)], [17 = 17, CallP prog 20 [PD.agg [PD.int IntKind.u8 p.tos, PD.int IntKind.u16 p.id, PD.bool p.df, PD.bool p.mf, PD.int IntKind.i64 p.off, PD.int IntKind.u8 p.ttl, PD.int IntKind.u8 p.proto, PD.int IntKind.u8 p.s0, PD.int IntKind.u8 p.s1, PD.int IntKind.u8 p.s2, PD.int IntKind.u8 p.s3, PD.int IntKind.u8 p.d0, PD.int IntKind.u8 p.d1, PD.int IntKind.u8 p.d2, PD.int IntKind.u8 p.d3, PD.ds 1 (bl p.opts), PD.ds 1 (bl p.body)]] (PD.tup [PD.int IntKind.i64 p.size, PD.int IntKind.i64 ((20 : Int) + (↑p.opts.length : Int)), PD.int IntKind.i64 (0 : Int)]), True, DV.pd (PD.bool ((0 : Int) != (0 : Int))) = DV.pd (PD.bool false), True, DV.pd (PD.bool (decide (mtu < (68 : Int)))) = DV.pd (PD.bool true)]) := by kernel_rfl
  refine runF_to h_run ?_ ?_
  · clear h_run
    exact ⟨by omega, f20_1 p h (by have := V4.chk0 h; omega) (by have := V4.chk0 h; omega), trivial, dnF (by omega), trivial, dtt (by omega), trivial⟩
  · clear h_run
    unfold V4.fits V4.why
    rw [if_pos h, if_pos (.inl h1), decide_eq_false (fun hh => by have := hh.1; omega)]


theorem f13_2 (p : V4) (mtu : Int) (h : p.chk = 0) (h1 : ¬ mtu < 68) (h2 : 65535 < mtu) : CallP prog 13 [p.pd, ni mtu] (.tup [.bool (p.fits mtu), ni (p.why mtu)]) := by
  have h_run : runF prog [⟨1, 1, .cp (.tup [ni p.size, ni (20 + p.opts.length), ni 0]), .n⟩, ⟨2, 1, .n, ff⟩, ⟨4, 1, .n, ff⟩, ⟨4, 4, .n, tt⟩] [] 13 [p.pd, ni mtu] = some (PD.tup [PD.bool false, PD.int IntKind.i64 (131 : Int)], [17 = 17, CallP prog 20 [PD.agg [PD.int IntKind.u8 p.tos, PD.int IntKind.u16 p.id, PD.bool p.df, PD.bool p.mf, PD.int IntKind.i64 p.off, PD.int IntKind.u8 p.ttl, PD.int IntKind.u8 p.proto, PD.int IntKind.u8 p.s0, PD.int IntKind.u8 p.s1, PD.int IntKind.u8 p.s2, PD.int IntKind.u8 p.s3, PD.int IntKind.u8 p.d0, PD.int IntKind.u8 p.d1, PD.int IntKind.u8 p.d2, PD.int IntKind.u8 p.d3, PD.ds 1 (bl p.opts), PD.ds 1 (bl p.body)]] (PD.tup [PD.int IntKind.i64 p.size, PD.int IntKind.i64 ((20 : Int) + (↑p.opts.length : Int)), PD.int IntKind.i64 (0 : Int)]), True, DV.pd (PD.bool ((0 : Int) != (0 : Int))) = DV.pd (PD.bool false), True, DV.pd (PD.bool (decide (mtu < (68 : Int)))) = DV.pd (PD.bool false), True, DV.pd (PD.bool (decide (mtu > (65535 : Int)))) = DV.pd (PD.bool true)]) := by kernel_rfl
  refine runF_to h_run ?_ ?_
  · clear h_run
    exact ⟨by omega, f20_1 p h (by have := V4.chk0 h; omega) (by have := V4.chk0 h; omega), trivial, dnF (by omega), trivial, dff (by omega), trivial, dtt (by omega), trivial⟩
  · clear h_run
    unfold V4.fits V4.why
    rw [if_pos h, if_pos (.inr h2), decide_eq_false (fun hh => by have := hh.1; omega)]


theorem f13_3 (p : V4) (mtu : Int) (h : p.chk = 0) (h1 : ¬ mtu < 68) (h2 : ¬ 65535 < mtu) : CallP prog 13 [p.pd, ni mtu] (.tup [.bool (p.fits mtu), ni (p.why mtu)]) := by
  have h_run : runF prog [⟨1, 1, .cp (.tup [ni p.size, ni (20 + p.opts.length), ni 0]), .n⟩, ⟨2, 1, .n, ff⟩, ⟨4, 1, .n, ff⟩, ⟨4, 4, .n, ff⟩] [] 13 [p.pd, ni mtu] = some (PD.tup [PD.bool (decide (p.size ≤ mtu)), PD.int IntKind.i64 (0 : Int)], [17 = 17, CallP prog 20 [PD.agg [PD.int IntKind.u8 p.tos, PD.int IntKind.u16 p.id, PD.bool p.df, PD.bool p.mf, PD.int IntKind.i64 p.off, PD.int IntKind.u8 p.ttl, PD.int IntKind.u8 p.proto, PD.int IntKind.u8 p.s0, PD.int IntKind.u8 p.s1, PD.int IntKind.u8 p.s2, PD.int IntKind.u8 p.s3, PD.int IntKind.u8 p.d0, PD.int IntKind.u8 p.d1, PD.int IntKind.u8 p.d2, PD.int IntKind.u8 p.d3, PD.ds 1 (bl p.opts), PD.ds 1 (bl p.body)]] (PD.tup [PD.int IntKind.i64 p.size, PD.int IntKind.i64 ((20 : Int) + (↑p.opts.length : Int)), PD.int IntKind.i64 (0 : Int)]), True, DV.pd (PD.bool ((0 : Int) != (0 : Int))) = DV.pd (PD.bool false), True, DV.pd (PD.bool (decide (mtu < (68 : Int)))) = DV.pd (PD.bool false), True, DV.pd (PD.bool (decide (mtu > (65535 : Int)))) = DV.pd (PD.bool false), True]) := by kernel_rfl
  refine runF_to h_run ?_ ?_
  · clear h_run
    exact ⟨by omega, f20_1 p h (by have := V4.chk0 h; omega) (by have := V4.chk0 h; omega), trivial, dnF (by omega), trivial, dff (by omega), trivial, dff (by omega), trivial, trivial⟩
  · clear h_run
    have hw : p.why mtu = 0 := by
      unfold V4.why
      rw [if_pos h, if_neg (by omega)]
    unfold V4.fits
    rw [hw]
    congr 3
    simp

theorem f13_ok (p : V4) (mtu : Int) : CallP prog 13 [p.pd, ni mtu] (.tup [.bool (p.fits mtu), ni (p.why mtu)]) := by
  by_cases h : p.chk = 0
  · by_cases h1 : mtu < 68
    · exact f13_1 p mtu h h1
    · by_cases h2 : 65535 < mtu
      · exact f13_2 p mtu h h1 h2
      · exact f13_3 p mtu h h1 h2
  · exact f13_0 p mtu h

theorem f9_ok (p : V4) (mtu : Int)  : CallP prog 9 [p.pd, ni mtu] (.tup [.bool (p.fits mtu), ni (p.why mtu)]) := by
  have h_run : runF prog [⟨1, 2, .cp (.tup [.bool (p.fits mtu), ni (p.why mtu)]), .n⟩] [] 9 [p.pd, ni mtu] = some (PD.tup [PD.bool (p.fits mtu), PD.int IntKind.i64 (p.why mtu)], [17 = 17, CallP prog 13 [PD.agg [PD.int IntKind.u8 p.tos, PD.int IntKind.u16 p.id, PD.bool p.df, PD.bool p.mf, PD.int IntKind.i64 p.off, PD.int IntKind.u8 p.ttl, PD.int IntKind.u8 p.proto, PD.int IntKind.u8 p.s0, PD.int IntKind.u8 p.s1, PD.int IntKind.u8 p.s2, PD.int IntKind.u8 p.s3, PD.int IntKind.u8 p.d0, PD.int IntKind.u8 p.d1, PD.int IntKind.u8 p.d2, PD.int IntKind.u8 p.d3, PD.ds 1 (bl p.opts), PD.ds 1 (bl p.body)], PD.int IntKind.i64 mtu] (PD.tup [PD.bool (p.fits mtu), PD.int IntKind.i64 (p.why mtu)])]) := by kernel_rfl
  refine runF_to h_run ?_ ?_
  · clear h_run
    exact ⟨by omega, f13_ok p mtu, trivial⟩
  · clear h_run
    rfl


theorem f18_0 (p : V4) (mtu : Int) (h : ¬ p.chk = 0) : CallP prog 18 [p.pd, ni mtu] (ni (p.why mtu)) := by
  have h_run : runF prog [⟨1, 1, .cp (ni p.chk), .n⟩, ⟨2, 1, .n, tt⟩] [] 18 [p.pd, ni mtu] = some (PD.int IntKind.i64 p.chk, [17 = 17, CallP prog 24 [PD.agg [PD.int IntKind.u8 p.tos, PD.int IntKind.u16 p.id, PD.bool p.df, PD.bool p.mf, PD.int IntKind.i64 p.off, PD.int IntKind.u8 p.ttl, PD.int IntKind.u8 p.proto, PD.int IntKind.u8 p.s0, PD.int IntKind.u8 p.s1, PD.int IntKind.u8 p.s2, PD.int IntKind.u8 p.s3, PD.int IntKind.u8 p.d0, PD.int IntKind.u8 p.d1, PD.int IntKind.u8 p.d2, PD.int IntKind.u8 p.d3, PD.ds 1 (bl p.opts), PD.ds 1 (bl p.body)]] (PD.int IntKind.i64 p.chk), True, DV.pd (PD.bool (p.chk != (0 : Int))) = DV.pd (PD.bool true)]) := by kernel_rfl
  refine runF_to h_run ?_ ?_
  · clear h_run
    exact ⟨by omega, f24_ok p, trivial, dnT (by omega), trivial⟩
  · clear h_run
    unfold V4.why
    rw [if_neg h]

theorem f18_1 (p : V4) (mtu : Int) (h : p.chk = 0) (h1 : mtu < 68) : CallP prog 18 [p.pd, ni mtu] (ni (p.why mtu)) := by
  have h_run : runF prog [⟨1, 1, .cp (ni p.chk), .n⟩, ⟨2, 1, .n, ff⟩, ⟨4, 1, .n, tt⟩] [] 18 [p.pd, ni mtu] = some (PD.int IntKind.i64 (131 : Int), [17 = 17, CallP prog 24 [PD.agg [PD.int IntKind.u8 p.tos, PD.int IntKind.u16 p.id, PD.bool p.df, PD.bool p.mf, PD.int IntKind.i64 p.off, PD.int IntKind.u8 p.ttl, PD.int IntKind.u8 p.proto, PD.int IntKind.u8 p.s0, PD.int IntKind.u8 p.s1, PD.int IntKind.u8 p.s2, PD.int IntKind.u8 p.s3, PD.int IntKind.u8 p.d0, PD.int IntKind.u8 p.d1, PD.int IntKind.u8 p.d2, PD.int IntKind.u8 p.d3, PD.ds 1 (bl p.opts), PD.ds 1 (bl p.body)]] (PD.int IntKind.i64 p.chk), True, DV.pd (PD.bool (p.chk != (0 : Int))) = DV.pd (PD.bool false), True, DV.pd (PD.bool (decide (mtu < (68 : Int)))) = DV.pd (PD.bool true)]) := by kernel_rfl
  refine runF_to h_run ?_ ?_
  · clear h_run
    exact ⟨by omega, f24_ok p, trivial, dnF (by omega), trivial, dtt (by omega), trivial⟩
  · clear h_run
    unfold V4.why
    rw [if_pos h, if_pos (.inl h1)]

theorem f18_2 (p : V4) (mtu : Int) (h : p.chk = 0) (h1 : ¬ mtu < 68) (h2 : 65535 < mtu) : CallP prog 18 [p.pd, ni mtu] (ni (p.why mtu)) := by
  have h_run : runF prog [⟨1, 1, .cp (ni p.chk), .n⟩, ⟨2, 1, .n, ff⟩, ⟨4, 1, .n, ff⟩, ⟨4, 4, .n, tt⟩] [] 18 [p.pd, ni mtu] = some (PD.int IntKind.i64 (131 : Int), [17 = 17, CallP prog 24 [PD.agg [PD.int IntKind.u8 p.tos, PD.int IntKind.u16 p.id, PD.bool p.df, PD.bool p.mf, PD.int IntKind.i64 p.off, PD.int IntKind.u8 p.ttl, PD.int IntKind.u8 p.proto, PD.int IntKind.u8 p.s0, PD.int IntKind.u8 p.s1, PD.int IntKind.u8 p.s2, PD.int IntKind.u8 p.s3, PD.int IntKind.u8 p.d0, PD.int IntKind.u8 p.d1, PD.int IntKind.u8 p.d2, PD.int IntKind.u8 p.d3, PD.ds 1 (bl p.opts), PD.ds 1 (bl p.body)]] (PD.int IntKind.i64 p.chk), True, DV.pd (PD.bool (p.chk != (0 : Int))) = DV.pd (PD.bool false), True, DV.pd (PD.bool (decide (mtu < (68 : Int)))) = DV.pd (PD.bool false), True, DV.pd (PD.bool (decide (mtu > (65535 : Int)))) = DV.pd (PD.bool true)]) := by kernel_rfl
  refine runF_to h_run ?_ ?_
  · clear h_run
    exact ⟨by omega, f24_ok p, trivial, dnF (by omega), trivial, dff (by omega), trivial, dtt (by omega), trivial⟩
  · clear h_run
    unfold V4.why
    rw [if_pos h, if_pos (.inr h2)]

theorem f18_3 (p : V4) (mtu : Int) (h : p.chk = 0) (h1 : ¬ mtu < 68) (h2 : ¬ 65535 < mtu) : CallP prog 18 [p.pd, ni mtu] (ni (p.why mtu)) := by
  have h_run : runF prog [⟨1, 1, .cp (ni p.chk), .n⟩, ⟨2, 1, .n, ff⟩, ⟨4, 1, .n, ff⟩, ⟨4, 4, .n, ff⟩] [] 18 [p.pd, ni mtu] = some (PD.int IntKind.i64 (0 : Int), [17 = 17, CallP prog 24 [PD.agg [PD.int IntKind.u8 p.tos, PD.int IntKind.u16 p.id, PD.bool p.df, PD.bool p.mf, PD.int IntKind.i64 p.off, PD.int IntKind.u8 p.ttl, PD.int IntKind.u8 p.proto, PD.int IntKind.u8 p.s0, PD.int IntKind.u8 p.s1, PD.int IntKind.u8 p.s2, PD.int IntKind.u8 p.s3, PD.int IntKind.u8 p.d0, PD.int IntKind.u8 p.d1, PD.int IntKind.u8 p.d2, PD.int IntKind.u8 p.d3, PD.ds 1 (bl p.opts), PD.ds 1 (bl p.body)]] (PD.int IntKind.i64 p.chk), True, DV.pd (PD.bool (p.chk != (0 : Int))) = DV.pd (PD.bool false), True, DV.pd (PD.bool (decide (mtu < (68 : Int)))) = DV.pd (PD.bool false), True, DV.pd (PD.bool (decide (mtu > (65535 : Int)))) = DV.pd (PD.bool false)]) := by kernel_rfl
  refine runF_to h_run ?_ ?_
  · clear h_run
    exact ⟨by omega, f24_ok p, trivial, dnF (by omega), trivial, dff (by omega), trivial, dff (by omega), trivial⟩
  · clear h_run
    unfold V4.why
    rw [if_pos h, if_neg (by omega)]

theorem f18_ok (p : V4) (mtu : Int) : CallP prog 18 [p.pd, ni mtu] (ni (p.why mtu)) := by
  by_cases h : p.chk = 0
  · by_cases h1 : mtu < 68
    · exact f18_1 p mtu h h1
    · by_cases h2 : 65535 < mtu
      · exact f18_2 p mtu h h1 h2
      · exact f18_3 p mtu h h1 h2
  · exact f18_0 p mtu h

theorem V4.why0 {p : V4} {mtu : Int} (h : p.why mtu = 0) : p.chk = 0 ∧ 68 ≤ mtu ∧ mtu ≤ 65535 := by
  unfold V4.why at h
  split at h
  · rename_i h0
    split at h
    · omega
    · exact ⟨h0, by omega, by omega⟩
  · contradiction

theorem f10_0 (p : V4) (mtu : Int) (h : ¬ p.why mtu = 0) : CallP prog 10 [p.pd, ni mtu] (.tup [.bool (p.fits mtu), ni (p.why mtu)]) := by
  have h_run : runF prog [⟨1, 2, .cp (ni (p.why mtu)), .n⟩, ⟨2, 1, .n, ff⟩] [] 10 [p.pd, ni mtu] = some (PD.tup [PD.bool false, PD.int IntKind.i64 (p.why mtu)], [17 = 17, CallP prog 18 [PD.agg [PD.int IntKind.u8 p.tos, PD.int IntKind.u16 p.id, PD.bool p.df, PD.bool p.mf, PD.int IntKind.i64 p.off, PD.int IntKind.u8 p.ttl, PD.int IntKind.u8 p.proto, PD.int IntKind.u8 p.s0, PD.int IntKind.u8 p.s1, PD.int IntKind.u8 p.s2, PD.int IntKind.u8 p.s3, PD.int IntKind.u8 p.d0, PD.int IntKind.u8 p.d1, PD.int IntKind.u8 p.d2, PD.int IntKind.u8 p.d3, PD.ds 1 (bl p.opts), PD.ds 1 (bl p.body)], PD.int IntKind.i64 mtu] (PD.int IntKind.i64 (p.why mtu)), True, DV.pd (PD.bool (decide (p.why mtu = (0 : Int)))) = DV.pd (PD.bool false)]) := by kernel_rfl
  refine runF_to h_run ?_ ?_
  · clear h_run
    exact ⟨by omega, f18_ok p mtu, trivial, dff (by omega), trivial⟩
  · clear h_run
    unfold V4.fits
    rw [decide_eq_false (fun hh => h hh.1)]

theorem f10_1 (p : V4) (mtu : Int) (h : p.why mtu = 0) : CallP prog 10 [p.pd, ni mtu] (.tup [.bool (p.fits mtu), ni (p.why mtu)]) := by
  have h_run : runF prog [⟨1, 2, .cp (ni (p.why mtu)), .n⟩, ⟨2, 1, .n, tt⟩, ⟨2, 4, .cp (ni p.size), .n⟩] [] 10 [p.pd, ni mtu] = some (PD.tup [PD.bool (decide (p.size ≤ mtu)), PD.int IntKind.i64 (p.why mtu)], [17 = 17, CallP prog 18 [PD.agg [PD.int IntKind.u8 p.tos, PD.int IntKind.u16 p.id, PD.bool p.df, PD.bool p.mf, PD.int IntKind.i64 p.off, PD.int IntKind.u8 p.ttl, PD.int IntKind.u8 p.proto, PD.int IntKind.u8 p.s0, PD.int IntKind.u8 p.s1, PD.int IntKind.u8 p.s2, PD.int IntKind.u8 p.s3, PD.int IntKind.u8 p.d0, PD.int IntKind.u8 p.d1, PD.int IntKind.u8 p.d2, PD.int IntKind.u8 p.d3, PD.ds 1 (bl p.opts), PD.ds 1 (bl p.body)], PD.int IntKind.i64 mtu] (PD.int IntKind.i64 (p.why mtu)), True, DV.pd (PD.bool (decide (p.why mtu = (0 : Int)))) = DV.pd (PD.bool true), 17 = 17, CallP prog 16 [PD.agg [PD.int IntKind.u8 p.tos, PD.int IntKind.u16 p.id, PD.bool p.df, PD.bool p.mf, PD.int IntKind.i64 p.off, PD.int IntKind.u8 p.ttl, PD.int IntKind.u8 p.proto, PD.int IntKind.u8 p.s0, PD.int IntKind.u8 p.s1, PD.int IntKind.u8 p.s2, PD.int IntKind.u8 p.s3, PD.int IntKind.u8 p.d0, PD.int IntKind.u8 p.d1, PD.int IntKind.u8 p.d2, PD.int IntKind.u8 p.d3, PD.ds 1 (bl p.opts), PD.ds 1 (bl p.body)]] (PD.int IntKind.i64 p.size), True]) := by kernel_rfl
  refine runF_to h_run ?_ ?_
  · clear h_run
    exact ⟨by omega, f18_ok p mtu, trivial, dtt (by omega), by omega, f16_ok p (by have := V4.chk0 (V4.why0 h).1; omega) (by have := V4.chk0 (V4.why0 h).1; omega), trivial, trivial⟩
  · clear h_run
    unfold V4.fits
    congr 3
    simp [h]

theorem f10_ok (p : V4) (mtu : Int) : CallP prog 10 [p.pd, ni mtu] (.tup [.bool (p.fits mtu), ni (p.why mtu)]) := by
  by_cases h : p.why mtu = 0
  · exact f10_1 p mtu h
  · exact f10_0 p mtu h
end Go.FI
