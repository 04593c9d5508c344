import Derived.Test.YtmfbkbjelikmoaaA5
namespace Go.FI
open Go.Proofs.Try

theorem f21_nil   : CallD prog 21 [.nl] (.nils) := by
  have h_run : runD prog [⟨1, 1, .n, .n⟩] [] 21 [.nl] = some (PD.nils, []) := by kernel_rfl
  refine runD_to h_run ?_ ?_
  · clear h_run
    exact trivial
  · clear h_run
    rfl

theorem f21_nn (xs : List Int) (hl : xs.length ≤ 1000000) : CallD prog 21 [.nn 1 (bl xs)] (nb xs) := by
  have h_run : runD prog [] [] 21 [.nn 1 (bl xs)] = some (PD.ds 1 (List.take (bl xs).length (bl xs)), [0 = 0 ∧ (0 + (bl xs).length) * 1 ≤ 140737488355328 ∧ 0 + (bl xs).length ≤ 9223372036854775807]) := by kernel_rfl
  refine runD_to h_run ?_ ?_
  · clear h_run
    have e0 := bl_length xs
    exact ⟨by first | omega | simp, trivial⟩
  · clear h_run
    rw [List.take_length]

theorem f21_ok (xs : List Int) (hl : xs.length ≤ 1000000) : CallP prog 21 [nb xs] (nb xs) :=
  CallP.ofNil (fun h => f21_nil.weak fun I w v hv => by rw [nb, h]; exact PD.nils_ds hv) (f21_nn xs hl)

/-- The datagram cut to what is looked at. -/
def V4.cut (p : V4) : V4 := { p with body := p.body.take 70000, opts := p.opts.take 100 }
theorem f4_0 (p : V4) (h : 70000 < p.body.length) (h1 : 100 < p.opts.length) : CallP prog 4 [p.pd] (p.cut.pd) := by
  have h_run : runF prog [⟨1, 3, .n, tt⟩, ⟨2, 2, .n, .eq (.pd (nb (p.body.take 70000)))⟩, ⟨3, 3, .n, tt⟩, ⟨4, 2, .n, .eq (.pd (nb (p.opts.take 100)))⟩] [] 4 [p.pd] = some (PD.agg [PD.int IntKind.u8 p.tos, PD.int IntKind.u16 p.id, PD.bool p.df, PD.bool p.mf, PD.int IntKind.i64 p.off, PD.int IntKind.u8 p.ttl, PD.int IntKind.u8 p.proto, PD.int IntKind.u8 p.s0, PD.int IntKind.u8 p.s1, PD.int IntKind.u8 p.s2, PD.int IntKind.u8 p.s3, PD.int IntKind.u8 p.d0, PD.int IntKind.u8 p.d1, PD.int IntKind.u8 p.d2, PD.int IntKind.u8 p.d3, PD.ds 1 (bl (List.take 100 p.opts)), PD.ds 1 (bl (List.take 70000 p.body))], [True, True, DV.pd (PD.bool (decide ((↑(bl p.body).length : Int) > (70000 : Int)))) = DV.pd (PD.bool true), True, (0 : Int) ≤ (70000 : Int) ∧ (70000 : Int) ≤ (↑(bl p.body).length : Int), DV.pd (PD.ds 1 (List.take (Int.toNat (70000 : Int)) (bl p.body))) = DV.pd (PD.ds 1 (bl (List.take 70000 p.body))), True, True, True, DV.pd (PD.bool (decide ((↑(bl p.opts).length : Int) > (100 : Int)))) = DV.pd (PD.bool true), True, (0 : Int) ≤ (100 : Int) ∧ (100 : Int) ≤ (↑(bl p.opts).length : Int), DV.pd (PD.ds 1 (List.take (Int.toNat (100 : Int)) (bl p.opts))) = DV.pd (PD.ds 1 (bl (List.take 100 p.opts))), True, 17 = 17, True, 17 = 17]) := by kernel_rfl
  refine runF_to h_run ?_ ?_
  · clear h_run
    have e0 := bl_length p.body
    have e1 := bl_length p.opts
    exact ⟨trivial, trivial, by first | exact dtt (by omega) | simp, trivial, by first | omega | simp, by first | exact bcutT _ _ | exact bcutD _ _ | exact bcutTD _ _ _, trivial, trivial, trivial, by first | exact dtt (by omega) | simp, trivial, by first | omega | simp, by first | exact bcutT _ _ | exact bcutD _ _ | exact bcutTD _ _ _, trivial, by first | omega | simp, trivial, by first | omega | simp, trivial⟩
  · clear h_run
    rfl

theorem f4_1 (p : V4) (h : 70000 < p.body.length) (h1 : ¬ 100 < p.opts.length) : CallP prog 4 [p.pd] (p.cut.pd) := by
  have h_run : runF prog [⟨1, 3, .n, tt⟩, ⟨2, 2, .n, .eq (.pd (nb (p.body.take 70000)))⟩, ⟨3, 3, .n, ff⟩] [] 4 [p.pd] = some (PD.agg [PD.int IntKind.u8 p.tos, PD.int IntKind.u16 p.id, PD.bool p.df, PD.bool p.mf, PD.int IntKind.i64 p.off, PD.int IntKind.u8 p.ttl, PD.int IntKind.u8 p.proto, PD.int IntKind.u8 p.s0, PD.int IntKind.u8 p.s1, PD.int IntKind.u8 p.s2, PD.int IntKind.u8 p.s3, PD.int IntKind.u8 p.d0, PD.int IntKind.u8 p.d1, PD.int IntKind.u8 p.d2, PD.int IntKind.u8 p.d3, PD.ds 1 (bl p.opts), PD.ds 1 (bl (List.take 70000 p.body))], [True, True, DV.pd (PD.bool (decide ((↑(bl p.body).length : Int) > (70000 : Int)))) = DV.pd (PD.bool true), True, (0 : Int) ≤ (70000 : Int) ∧ (70000 : Int) ≤ (↑(bl p.body).length : Int), DV.pd (PD.ds 1 (List.take (Int.toNat (70000 : Int)) (bl p.body))) = DV.pd (PD.ds 1 (bl (List.take 70000 p.body))), True, True, True, DV.pd (PD.bool (decide ((↑(bl p.opts).length : Int) > (100 : Int)))) = DV.pd (PD.bool false), 17 = 17, True, 17 = 17]) := by kernel_rfl
  refine runF_to h_run ?_ ?_
  · clear h_run
    have e0 := bl_length p.body
    have e1 := bl_length p.opts
    exact ⟨trivial, trivial, by first | exact dtt (by omega) | simp, trivial, by first | omega | simp, by first | exact bcutT _ _ | exact bcutD _ _ | exact bcutTD _ _ _, trivial, trivial, trivial, by first | exact dff (by omega) | simp, by first | omega | simp, trivial, by first | omega | simp, trivial⟩
  · clear h_run
    have e : p.opts.take 100 = p.opts := List.take_of_length_le (by omega)
    unfold V4.cut
    simp only [e]

theorem f4_2 (p : V4) (h : ¬ 70000 < p.body.length) (h1 : 100 < p.opts.length) : CallP prog 4 [p.pd] (p.cut.pd) := by
  have h_run : runF prog [⟨1, 3, .n, ff⟩, ⟨3, 3, .n, tt⟩, ⟨4, 2, .n, .eq (.pd (nb (p.opts.take 100)))⟩] [] 4 [p.pd] = some (PD.agg [PD.int IntKind.u8 p.tos, PD.int IntKind.u16 p.id, PD.bool p.df, PD.bool p.mf, PD.int IntKind.i64 p.off, PD.int IntKind.u8 p.ttl, PD.int IntKind.u8 p.proto, PD.int IntKind.u8 p.s0, PD.int IntKind.u8 p.s1, PD.int IntKind.u8 p.s2, PD.int IntKind.u8 p.s3, PD.int IntKind.u8 p.d0, PD.int IntKind.u8 p.d1, PD.int IntKind.u8 p.d2, PD.int IntKind.u8 p.d3, PD.ds 1 (bl (List.take 100 p.opts)), PD.ds 1 (bl p.body)], [True, True, DV.pd (PD.bool (decide ((↑(bl p.body).length : Int) > (70000 : Int)))) = DV.pd (PD.bool false), True, True, DV.pd (PD.bool (decide ((↑(bl p.opts).length : Int) > (100 : Int)))) = DV.pd (PD.bool true), True, (0 : Int) ≤ (100 : Int) ∧ (100 : Int) ≤ (↑(bl p.opts).length : Int), DV.pd (PD.ds 1 (List.take (Int.toNat (100 : Int)) (bl p.opts))) = DV.pd (PD.ds 1 (bl (List.take 100 p.opts))), True, 17 = 17, True, 17 = 17]) := by kernel_rfl
  refine runF_to h_run ?_ ?_
  · clear h_run
    have e0 := bl_length p.body
    have e1 := bl_length p.opts
    exact ⟨trivial, trivial, by first | exact dff (by omega) | simp, trivial, trivial, by first | exact dtt (by omega) | simp, trivial, by first | omega | simp, by first | exact bcutT _ _ | exact bcutD _ _ | exact bcutTD _ _ _, trivial, by first | omega | simp, trivial, by first | omega | simp, trivial⟩
  · clear h_run
    have e : p.body.take 70000 = p.body := List.take_of_length_le (by omega)
    unfold V4.cut
    simp only [e]

theorem f4_3 (p : V4) (h : ¬ 70000 < p.body.length) (h1 : ¬ 100 < p.opts.length) : CallP prog 4 [p.pd] (p.cut.pd) := by
  have h_run : runF prog [⟨1, 3, .n, ff⟩, ⟨3, 3, .n, ff⟩] [] 4 [p.pd] = some (PD.agg [PD.int IntKind.u8 p.tos, PD.int IntKind.u16 p.id, PD.bool p.df, PD.bool p.mf, PD.int IntKind.i64 p.off, PD.int IntKind.u8 p.ttl, PD.int IntKind.u8 p.proto, PD.int IntKind.u8 p.s0, PD.int IntKind.u8 p.s1, PD.int IntKind.u8 p.s2, PD.int IntKind.u8 p.s3, PD.int IntKind.u8 p.d0, PD.int IntKind.u8 p.d1, PD.int IntKind.u8 p.d2, PD.int IntKind.u8 p.d3, PD.ds 1 (bl p.opts), PD.ds 1 (bl p.body)], [True, True, DV.pd (PD.bool (decide ((↑(bl p.body).length : Int) > (70000 : Int)))) = DV.pd (PD.bool false), True, True, DV.pd (PD.bool (decide ((↑(bl p.opts).length : Int) > (100 : Int)))) = DV.pd (PD.bool false), 17 = 17, True, 17 = 17]) := by kernel_rfl
  refine runF_to h_run ?_ ?_
  · clear h_run
    have e0 := bl_length p.body
    have e1 := bl_length p.opts
    exact ⟨trivial, trivial, by first | exact dff (by omega) | simp, trivial, trivial, by first | exact dff (by omega) | simp, by first | omega | simp, trivial, by first | omega | simp, trivial⟩
  · clear h_run
    have e : p.body.take 70000 = p.body := List.take_of_length_le (by omega)
    have e' : p.opts.take 100 = p.opts := List.take_of_length_le (by omega)
    unfold V4.cut
    simp only [e, e']

theorem f4_ok (p : V4) : CallP prog 4 [p.pd] p.cut.pd := by
  by_cases h : 70000 < p.body.length
  · by_cases h1 : 100 < p.opts.length
    · exact f4_0 p h h1
    · exact f4_1 p h h1
  · by_cases h1 : 100 < p.opts.length
    · exact f4_2 p h h1
    · exact f4_3 p h h1
theorem f19_ok (p : V4)  : CallP prog 19 [p.pd, p.pd] (.bool true) := by
  have h_run : runF prog [⟨1, 4, .n, tt⟩, ⟨1, 10, .n, tt⟩, ⟨1, 17, .n, tt⟩, ⟨1, 24, .n, tt⟩, ⟨1, 31, .n, tt⟩, ⟨1, 38, .n, tt⟩, ⟨1, 45, .n, tt⟩, ⟨1, 52, .n, tt⟩, ⟨1, 59, .n, tt⟩, ⟨1, 68, .n, tt⟩, ⟨1, 77, .n, tt⟩, ⟨1, 64, .nums p.opts, .n⟩, ⟨1, 67, .nums p.opts, .n⟩, ⟨1, 73, .nums p.body, .n⟩, ⟨1, 76, .nums p.body, .n⟩] [] 19 [p.pd, p.pd] = some (PD.bool true, [True, True, True, DV.pd (PD.bool (decide (p.tos = p.tos))) = DV.pd (PD.bool true), True, True, True, DV.pd (PD.bool (decide (p.id = p.id))) = DV.pd (PD.bool true), True, True, True, DV.pd (PD.bool (decide (p.df = p.df))) = DV.pd (PD.bool true), True, True, True, DV.pd (PD.bool (decide (p.mf = p.mf))) = DV.pd (PD.bool true), True, True, True, DV.pd (PD.bool (decide (p.off = p.off))) = DV.pd (PD.bool true), True, True, True, DV.pd (PD.bool (decide (p.ttl = p.ttl))) = DV.pd (PD.bool true), True, True, True, DV.pd (PD.bool (decide (p.proto = p.proto))) = DV.pd (PD.bool true), 4 = 4, 4 = 4, DV.pd (PD.bool (decide (p.s0 = p.s0) && (decide (p.s1 = p.s1) && (decide (p.s2 = p.s2) && (decide (p.s3 = p.s3) && true))))) = DV.pd (PD.bool true), 4 = 4, 4 = 4, DV.pd (PD.bool (decide (p.d0 = p.d0) && (decide (p.d1 = p.d1) && (decide (p.d2 = p.d2) && (decide (p.d3 = p.d3) && true))))) = DV.pd (PD.bool true), True, bl p.opts = numsPD p.opts, True, bl p.opts = numsPD p.opts, True, DV.pd (PD.bool ((strOfNums p.opts).toList.beq (strOfNums p.opts).toList)) = DV.pd (PD.bool true), True, bl p.body = numsPD p.body, True, bl p.body = numsPD p.body, True, DV.pd (PD.bool ((strOfNums p.body).toList.beq (strOfNums p.body).toList)) = DV.pd (PD.bool true)]) := by kernel_rfl
  refine runF_to h_run ?_ ?_
  · clear h_run
    exact ⟨trivial, trivial, trivial, by first | exact dtt (by omega) | simp, trivial, trivial, trivial, by first | exact dtt (by omega) | simp, trivial, trivial, trivial, by first | exact dtt (by omega) | simp, trivial, trivial, trivial, by first | exact dtt (by omega) | simp, trivial, trivial, trivial, by first | exact dtt (by omega) | simp, trivial, trivial, trivial, by first | exact dtt (by omega) | simp, trivial, trivial, trivial, by first | exact dtt (by omega) | simp, by first | omega | simp, by first | omega | simp, by simp, by first | omega | simp, by first | omega | simp, by simp, trivial, rfl, trivial, rfl, trivial, dlb _, trivial, rfl, trivial, rfl, trivial, dlb _, trivial⟩
  · clear h_run
    rfl


/-- The state of a copy. -/
abbrev S14 (p : V4) : St := ⟨slots 12 [(1, .ptr 0 0), (2, .ptr 1 0)], [.cells 27 (p.cells.map .pd), .cells 27 (V4.cells ⟨0, 0, false, false, 0, 0, 0, 0, 0, 0, 0, 0, 0, 0, 0, [], []⟩ |>.map .pd)], []⟩
end Go.FI
