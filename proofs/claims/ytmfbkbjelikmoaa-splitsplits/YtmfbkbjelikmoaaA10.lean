import Derived.Test.YtmfbkbjelikmoaaA9
namespace Go.FI
open Go.Proofs.Try

theorem f8_ok (p : V4) (mtu : Int) (hp : ∀ x ∈ p.opts, 0 ≤ x ∧ x ≤ 255) : CallP prog 8 [p.pd, ni mtu] (.tup [ni (p.split mtu).length, ni (p.fail mtu)]) := by
  have h_run : runF prog [⟨1, 2, .cp (.tup [nv (p.split mtu), ni (p.fail mtu)]), .n⟩] [] 8 [p.pd, ni mtu] = some (PD.tup [PD.int IntKind.i64 (↑(vl (p.split mtu)).length : Int), PD.int IntKind.i64 (p.fail mtu)], [17 = 17, CallP prog 6 [PD.agg [PD.int IntKind.u8 p.tos, PD.int IntKind.u16 p.id, PD.bool p.df, PD.bool p.mf, PD.int IntKind.i64 p.off, PD.int IntKind.u8 p.ttl, PD.int IntKind.u8 p.proto, PD.int IntKind.u8 p.s0, PD.int IntKind.u8 p.s1, PD.int IntKind.u8 p.s2, PD.int IntKind.u8 p.s3, PD.int IntKind.u8 p.d0, PD.int IntKind.u8 p.d1, PD.int IntKind.u8 p.d2, PD.int IntKind.u8 p.d3, PD.ds 1 (bl p.opts), PD.ds 1 (bl p.body)], PD.int IntKind.i64 mtu] (PD.tup [PD.ds 17 (vl (p.split mtu)), PD.int IntKind.i64 (p.fail mtu)])]) := by kernel_rfl
  refine runF_to h_run ?_ ?_
  · clear h_run
    exact ⟨by first | omega | exact dbb (by assumption) | simp, f6_ok p mtu hp, trivial⟩
  · clear h_run
    rw [vl_length]

end Go.FI
