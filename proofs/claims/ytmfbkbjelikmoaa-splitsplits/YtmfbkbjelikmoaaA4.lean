import Derived.Test.YtmfbkbjelikmoaaA3
namespace Go.FI
open Go.Proofs.Try

structure V4 where
  tos : Int
  id : Int
  df : Bool
  mf : Bool
  off : Int
  ttl : Int
  proto : Int
  s0 : Int
  s1 : Int
  s2 : Int
  s3 : Int
  d0 : Int
  d1 : Int
  d2 : Int
  d3 : Int
  opts : List Int
  body : List Int
abbrev V4.cells (p : V4) : List PD := [.int .u8 p.tos, .int .u16 p.id, .bool p.df, .bool p.mf, .int .i64 p.off, .int .u8 p.ttl, .int .u8 p.proto, .int .u8 p.s0, .int .u8 p.s1, .int .u8 p.s2, .int .u8 p.s3, .int .u8 p.d0, .int .u8 p.d1, .int .u8 p.d2, .int .u8 p.d3, nb p.opts, nb p.body]
abbrev V4.pd (p : V4) : PD := .agg p.cells
/-- May the datagram be? -/
def V4.chk (p : V4) : Int := if p.off < 0 ∨ 8191 < p.off ∨ 40 < p.opts.length ∨ ¬ p.opts.length % 4 = 0 then 45 else if 65515 < p.opts.length + p.body.length then 2 else 0
def V4.size (p : V4) : Int := 20 + p.opts.length + p.body.length

theorem f24_0 (p : V4) (h : p.off < 0) : CallP prog 24 [p.pd] (ni 45) := by
  have h_run : runF prog [⟨1, 2, .n, tt⟩] [] 24 [p.pd] = some (PD.int IntKind.i64 (45 : Int), [True, True, DV.pd (PD.bool (decide (p.off < (0 : Int)))) = DV.pd (PD.bool true)]) := by kernel_rfl
  refine runF_to h_run ?_ ?_
  · clear h_run
    exact ⟨trivial, trivial, dtt (by omega), trivial⟩
  · clear h_run
    rfl

theorem f24_1 (p : V4) (h1 : ¬ p.off < 0) (h : 8191 < p.off) : CallP prog 24 [p.pd] (ni 45) := by
  have h_run : runF prog [⟨1, 2, .n, ff⟩, ⟨1, 6, .n, tt⟩] [] 24 [p.pd] = some (PD.int IntKind.i64 (45 : Int), [True, True, DV.pd (PD.bool (decide (p.off < (0 : Int)))) = DV.pd (PD.bool false), True, True, DV.pd (PD.bool (decide (p.off > (8191 : Int)))) = DV.pd (PD.bool true)]) := by kernel_rfl
  refine runF_to h_run ?_ ?_
  · clear h_run
    exact ⟨trivial, trivial, dff (by omega), trivial, trivial, dtt (by omega), trivial⟩
  · clear h_run
    rfl

theorem f24_2 (p : V4) (h1 : ¬ p.off < 0) (h2 : ¬ 8191 < p.off) (h : 40 < p.opts.length) : CallP prog 24 [p.pd] (ni 45) := by
  have h_run : runF prog [⟨1, 2, .n, ff⟩, ⟨1, 6, .n, ff⟩, ⟨1, 12, .n, tt⟩] [] 24 [p.pd] = some (PD.int IntKind.i64 (45 : Int), [True, True, DV.pd (PD.bool (decide (p.off < (0 : Int)))) = DV.pd (PD.bool false), True, True, DV.pd (PD.bool (decide (p.off > (8191 : Int)))) = DV.pd (PD.bool false), True, True, DV.pd (PD.bool (decide ((↑(bl p.opts).length : Int) > (40 : Int)))) = DV.pd (PD.bool true)]) := by kernel_rfl
  refine runF_to h_run ?_ ?_
  · clear h_run
    have e0 := bl_length p.opts
    exact ⟨trivial, trivial, dff (by omega), trivial, trivial, dff (by omega), trivial, trivial, dtt (by omega), trivial⟩
  · clear h_run
    rfl

theorem f24_3 (p : V4) (h1 : ¬ p.off < 0) (h2 : ¬ 8191 < p.off) (h3 : ¬ 40 < p.opts.length) (h : ¬ p.opts.length % 4 = 0) : CallP prog 24 [p.pd] (ni 45) := by
  have h_run : runF prog [⟨1, 2, .n, ff⟩, ⟨1, 6, .n, ff⟩, ⟨1, 12, .n, ff⟩, ⟨1, 19, .n, tt⟩] [] 24 [p.pd] = some (PD.int IntKind.i64 (45 : Int), [True, True, DV.pd (PD.bool (decide (p.off < (0 : Int)))) = DV.pd (PD.bool false), True, True, DV.pd (PD.bool (decide (p.off > (8191 : Int)))) = DV.pd (PD.bool false), True, True, DV.pd (PD.bool (decide ((↑(bl p.opts).length : Int) > (40 : Int)))) = DV.pd (PD.bool false), True, (0 : Int) ≤ (↑(bl p.opts).length : Int) ∧ (4 : Int) ≠ (0 : Int), True, DV.pd (PD.bool ((↑(bl p.opts).length : Int) % (4 : Int) != (0 : Int))) = DV.pd (PD.bool true)]) := by kernel_rfl
  refine runF_to h_run ?_ ?_
  · clear h_run
    have e0 := bl_length p.opts
    exact ⟨trivial, trivial, dff (by omega), trivial, trivial, dff (by omega), trivial, trivial, dff (by omega), trivial, by omega, trivial, dnT (by omega), trivial⟩
  · clear h_run
    rfl

theorem f24_4 (p : V4) (h1 : ¬ p.off < 0) (h2 : ¬ 8191 < p.off) (h3 : ¬ 40 < p.opts.length) (h4 : p.opts.length % 4 = 0) (h : 65515 < p.opts.length + p.body.length) : CallP prog 24 [p.pd] (ni 2) := by
  have h_run : runF prog [⟨1, 2, .n, ff⟩, ⟨1, 6, .n, ff⟩, ⟨1, 12, .n, ff⟩, ⟨1, 19, .n, ff⟩, ⟨3, 7, .n, tt⟩] [] 24 [p.pd] = some (PD.int IntKind.i64 (2 : Int), [True, True, DV.pd (PD.bool (decide (p.off < (0 : Int)))) = DV.pd (PD.bool false), True, True, DV.pd (PD.bool (decide (p.off > (8191 : Int)))) = DV.pd (PD.bool false), True, True, DV.pd (PD.bool (decide ((↑(bl p.opts).length : Int) > (40 : Int)))) = DV.pd (PD.bool false), True, (0 : Int) ≤ (↑(bl p.opts).length : Int) ∧ (4 : Int) ≠ (0 : Int), True, DV.pd (PD.bool ((↑(bl p.opts).length : Int) % (4 : Int) != (0 : Int))) = DV.pd (PD.bool false), True, True, inR IntKind.i64 ((65515 : Int) - (↑(bl p.opts).length : Int)), True, DV.pd (PD.bool (decide ((↑(bl p.body).length : Int) > (65515 : Int) - (↑(bl p.opts).length : Int)))) = DV.pd (PD.bool true)]) := by kernel_rfl
  refine runF_to h_run ?_ ?_
  · clear h_run
    have e0 := bl_length p.opts
    have e1 := bl_length p.body
    exact ⟨trivial, trivial, dff (by omega), trivial, trivial, dff (by omega), trivial, trivial, dff (by omega), trivial, by omega, trivial, dnF (by omega), trivial, trivial, inR64.2 (by omega), trivial, dtt (by omega), trivial⟩
  · clear h_run
    rfl

theorem f24_5 (p : V4) (h1 : ¬ p.off < 0) (h2 : ¬ 8191 < p.off) (h3 : ¬ 40 < p.opts.length) (h4 : p.opts.length % 4 = 0) (h : ¬ 65515 < p.opts.length + p.body.length) : CallP prog 24 [p.pd] (ni 0) := by
  have h_run : runF prog [⟨1, 2, .n, ff⟩, ⟨1, 6, .n, ff⟩, ⟨1, 12, .n, ff⟩, ⟨1, 19, .n, ff⟩, ⟨3, 7, .n, ff⟩] [] 24 [p.pd] = some (PD.int IntKind.i64 (0 : Int), [True, True, DV.pd (PD.bool (decide (p.off < (0 : Int)))) = DV.pd (PD.bool false), True, True, DV.pd (PD.bool (decide (p.off > (8191 : Int)))) = DV.pd (PD.bool false), True, True, DV.pd (PD.bool (decide ((↑(bl p.opts).length : Int) > (40 : Int)))) = DV.pd (PD.bool false), True, (0 : Int) ≤ (↑(bl p.opts).length : Int) ∧ (4 : Int) ≠ (0 : Int), True, DV.pd (PD.bool ((↑(bl p.opts).length : Int) % (4 : Int) != (0 : Int))) = DV.pd (PD.bool false), True, True, inR IntKind.i64 ((65515 : Int) - (↑(bl p.opts).length : Int)), True, DV.pd (PD.bool (decide ((↑(bl p.body).length : Int) > (65515 : Int) - (↑(bl p.opts).length : Int)))) = DV.pd (PD.bool false)]) := by kernel_rfl
  refine runF_to h_run ?_ ?_
  · clear h_run
    have e0 := bl_length p.opts
    have e1 := bl_length p.body
    exact ⟨trivial, trivial, dff (by omega), trivial, trivial, dff (by omega), trivial, trivial, dff (by omega), trivial, by omega, trivial, dnF (by omega), trivial, trivial, inR64.2 (by omega), trivial, dff (by omega), trivial⟩
  · clear h_run
    rfl

theorem f24_ok (p : V4) : CallP prog 24 [p.pd] (ni p.chk) := by
  unfold V4.chk
  by_cases h1 : p.off < 0
  · rw [if_pos (.inl h1)]; exact f24_0 p h1
  by_cases h2 : 8191 < p.off
  · rw [if_pos (.inr (.inl h2))]; exact f24_1 p h1 h2
  by_cases h3 : 40 < p.opts.length
  · rw [if_pos (.inr (.inr (.inl h3)))]; exact f24_2 p h1 h2 h3
  by_cases h4 : p.opts.length % 4 = 0
  · rw [if_neg (by omega)]
    by_cases h5 : 65515 < p.opts.length + p.body.length
    · rw [if_pos h5]; exact f24_4 p h1 h2 h3 h4 h5
    · rw [if_neg h5]; exact f24_5 p h1 h2 h3 h4 h5
  · rw [if_pos (.inr (.inr (.inr h4)))]; exact f24_3 p h1 h2 h3 h4
theorem f25_0 (p : V4) (h : p.off < 0) : CallP prog 25 [p.pd] (ni 45) := by
  have h_run : runF prog [⟨1, 2, .n, tt⟩] [] 25 [p.pd] = some (PD.int IntKind.i64 (45 : Int), [True, True, DV.pd (PD.bool (decide (p.off < (0 : Int)))) = DV.pd (PD.bool true)]) := by kernel_rfl
  refine runF_to h_run ?_ ?_
  · clear h_run
    exact ⟨trivial, trivial, dtt (by omega), trivial⟩
  · clear h_run
    rfl

theorem f25_1 (p : V4) (h1 : ¬ p.off < 0) (h : 8191 < p.off) : CallP prog 25 [p.pd] (ni 45) := by
  have h_run : runF prog [⟨1, 2, .n, ff⟩, ⟨1, 6, .n, tt⟩] [] 25 [p.pd] = some (PD.int IntKind.i64 (45 : Int), [True, True, DV.pd (PD.bool (decide (p.off < (0 : Int)))) = DV.pd (PD.bool false), True, True, DV.pd (PD.bool (decide (p.off > (8191 : Int)))) = DV.pd (PD.bool true)]) := by kernel_rfl
  refine runF_to h_run ?_ ?_
  · clear h_run
    exact ⟨trivial, trivial, dff (by omega), trivial, trivial, dtt (by omega), trivial⟩
  · clear h_run
    rfl

theorem f25_2 (p : V4) (h1 : ¬ p.off < 0) (h2 : ¬ 8191 < p.off) (h : 40 < p.opts.length) : CallP prog 25 [p.pd] (ni 45) := by
  have h_run : runF prog [⟨1, 2, .n, ff⟩, ⟨1, 6, .n, ff⟩, ⟨1, 12, .n, tt⟩] [] 25 [p.pd] = some (PD.int IntKind.i64 (45 : Int), [True, True, DV.pd (PD.bool (decide (p.off < (0 : Int)))) = DV.pd (PD.bool false), True, True, DV.pd (PD.bool (decide (p.off > (8191 : Int)))) = DV.pd (PD.bool false), True, True, DV.pd (PD.bool (decide ((↑(bl p.opts).length : Int) > (40 : Int)))) = DV.pd (PD.bool true)]) := by kernel_rfl
  refine runF_to h_run ?_ ?_
  · clear h_run
    have e0 := bl_length p.opts
    exact ⟨trivial, trivial, dff (by omega), trivial, trivial, dff (by omega), trivial, trivial, dtt (by omega), trivial⟩
  · clear h_run
    rfl

theorem f25_3 (p : V4) (h1 : ¬ p.off < 0) (h2 : ¬ 8191 < p.off) (h3 : ¬ 40 < p.opts.length) (h : ¬ p.opts.length % 4 = 0) : CallP prog 25 [p.pd] (ni 45) := by
  have h_run : runF prog [⟨1, 2, .n, ff⟩, ⟨1, 6, .n, ff⟩, ⟨1, 12, .n, ff⟩, ⟨1, 19, .n, tt⟩] [] 25 [p.pd] = some (PD.int IntKind.i64 (45 : Int), [True, True, DV.pd (PD.bool (decide (p.off < (0 : Int)))) = DV.pd (PD.bool false), True, True, DV.pd (PD.bool (decide (p.off > (8191 : Int)))) = DV.pd (PD.bool false), True, True, DV.pd (PD.bool (decide ((↑(bl p.opts).length : Int) > (40 : Int)))) = DV.pd (PD.bool false), True, (0 : Int) ≤ (↑(bl p.opts).length : Int) ∧ (4 : Int) ≠ (0 : Int), True, DV.pd (PD.bool ((↑(bl p.opts).length : Int) % (4 : Int) != (0 : Int))) = DV.pd (PD.bool true)]) := by kernel_rfl
  refine runF_to h_run ?_ ?_
  · clear h_run
    have e0 := bl_length p.opts
    exact ⟨trivial, trivial, dff (by omega), trivial, trivial, dff (by omega), trivial, trivial, dff (by omega), trivial, by omega, trivial, dnT (by omega), trivial⟩
  · clear h_run
    rfl

theorem f25_4 (p : V4) (h1 : ¬ p.off < 0) (h2 : ¬ 8191 < p.off) (h3 : ¬ 40 < p.opts.length) (h4 : p.opts.length % 4 = 0) (h : 65515 < p.opts.length + p.body.length) : CallP prog 25 [p.pd] (ni 2) := by
  have h_run : runF prog [⟨1, 2, .n, ff⟩, ⟨1, 6, .n, ff⟩, ⟨1, 12, .n, ff⟩, ⟨1, 19, .n, ff⟩, ⟨3, 7, .n, tt⟩] [] 25 [p.pd] = some (PD.int IntKind.i64 (2 : Int), [True, True, DV.pd (PD.bool (decide (p.off < (0 : Int)))) = DV.pd (PD.bool false), True, True, DV.pd (PD.bool (decide (p.off > (8191 : Int)))) = DV.pd (PD.bool false), True, True, DV.pd (PD.bool (decide ((↑(bl p.opts).length : Int) > (40 : Int)))) = DV.pd (PD.bool false), True, (0 : Int) ≤ (↑(bl p.opts).length : Int) ∧ (4 : Int) ≠ (0 : Int), True, DV.pd (PD.bool ((↑(bl p.opts).length : Int) % (4 : Int) != (0 : Int))) = DV.pd (PD.bool false), True, True, inR IntKind.i64 ((65515 : Int) - (↑(bl p.opts).length : Int)), True, DV.pd (PD.bool (decide ((↑(bl p.body).length : Int) > (65515 : Int) - (↑(bl p.opts).length : Int)))) = DV.pd (PD.bool true)]) := by kernel_rfl
  refine runF_to h_run ?_ ?_
  · clear h_run
    have e0 := bl_length p.opts
    have e1 := bl_length p.body
    exact ⟨trivial, trivial, dff (by omega), trivial, trivial, dff (by omega), trivial, trivial, dff (by omega), trivial, by omega, trivial, dnF (by omega), trivial, trivial, inR64.2 (by omega), trivial, dtt (by omega), trivial⟩
  · clear h_run
    rfl

theorem f25_5 (p : V4) (h1 : ¬ p.off < 0) (h2 : ¬ 8191 < p.off) (h3 : ¬ 40 < p.opts.length) (h4 : p.opts.length % 4 = 0) (h : ¬ 65515 < p.opts.length + p.body.length) : CallP prog 25 [p.pd] (ni 0) := by
  have h_run : runF prog [⟨1, 2, .n, ff⟩, ⟨1, 6, .n, ff⟩, ⟨1, 12, .n, ff⟩, ⟨1, 19, .n, ff⟩, ⟨3, 7, .n, ff⟩] [] 25 [p.pd] = some (PD.int IntKind.i64 (0 : Int), [True, True, DV.pd (PD.bool (decide (p.off < (0 : Int)))) = DV.pd (PD.bool false), True, True, DV.pd (PD.bool (decide (p.off > (8191 : Int)))) = DV.pd (PD.bool false), True, True, DV.pd (PD.bool (decide ((↑(bl p.opts).length : Int) > (40 : Int)))) = DV.pd (PD.bool false), True, (0 : Int) ≤ (↑(bl p.opts).length : Int) ∧ (4 : Int) ≠ (0 : Int), True, DV.pd (PD.bool ((↑(bl p.opts).length : Int) % (4 : Int) != (0 : Int))) = DV.pd (PD.bool false), True, True, inR IntKind.i64 ((65515 : Int) - (↑(bl p.opts).length : Int)), True, DV.pd (PD.bool (decide ((↑(bl p.body).length : Int) > (65515 : Int) - (↑(bl p.opts).length : Int)))) = DV.pd (PD.bool false)]) := by kernel_rfl
  refine runF_to h_run ?_ ?_
  · clear h_run
    have e0 := bl_length p.opts
    have e1 := bl_length p.body
    exact ⟨trivial, trivial, dff (by omega), trivial, trivial, dff (by omega), trivial, trivial, dff (by omega), trivial, by omega, trivial, dnF (by omega), trivial, trivial, inR64.2 (by omega), trivial, dff (by omega), trivial⟩
  · clear h_run
    rfl

theorem f25_ok (p : V4) : CallP prog 25 [p.pd] (ni p.chk) := by
  unfold V4.chk
  by_cases h1 : p.off < 0
  · rw [if_pos (.inl h1)]; exact f25_0 p h1
  by_cases h2 : 8191 < p.off
  · rw [if_pos (.inr (.inl h2))]; exact f25_1 p h1 h2
  by_cases h3 : 40 < p.opts.length
  · rw [if_pos (.inr (.inr (.inl h3)))]; exact f25_2 p h1 h2 h3
  by_cases h4 : p.opts.length % 4 = 0
  · rw [if_neg (by omega)]
    by_cases h5 : 65515 < p.opts.length + p.body.length
    · rw [if_pos h5]; exact f25_4 p h1 h2 h3 h4 h5
    · rw [if_neg h5]; exact f25_5 p h1 h2 h3 h4 h5
  · rw [if_pos (.inr (.inr (.inr h4)))]; exact f25_3 p h1 h2 h3 h4
end Go.FI
