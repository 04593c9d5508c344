import Derived.Test.YtmfbkbjelikmoaaFx1
import Derived.Test.YtmfbkbjelikmoaaProg
import Derived.KernelRfl
namespace Go.FI
open Go.Proofs.Try

/-- The state of a round. -/
abbrev S23 (xs out : List Int) (i : Int) : St := ⟨slots 78 [(0, .pd (nb xs)), (2, .pd .nils), (3, .sl 0 out.length), (4, .pd (ni i))], [.row 5 1 (bl out)], []⟩
/-- The state behind the first loop. -/
abbrev T23 (xs out : List Int) : St := ⟨slots 78 [(0, .pd (nb xs)), (2, .pd .nils), (3, .sl 0 out.length)], [.row 5 1 (bl out)], []⟩
abbrev B23 (P : Program) : Code := loopBody (fcode P 23 0 3)

theorem c23_end (xs out : List Int) (i : Int) (h : ¬ i < xs.length) : CodeOK prog (B23 prog) (S23 xs out i) (Exit.exit 0) (T23 xs out) := by
  have h_run : exMask (evCode prog [⟨3, 3, .n, ff⟩] [] (B23 prog) (S23 xs out i)) [0, 2, 3] 1 = .yes (Exit.exit 0) ⟨slots 78 [(0, DV.pd (PD.ds 1 (bl xs))), (2, DV.pd PD.nils), (3, DV.sl 0 out.length)], [Ob.row 5 1 (bl out)], []⟩ [True, DV.pd (PD.bool (decide (i < (↑(bl xs).length : Int)))) = DV.pd (PD.bool false)] := by kernel_rfl
  refine (code_mask [0, 2, 3] 1 h_run ?_).to ?_
  · clear h_run
    have e0 := bl_length xs
    exact ⟨trivial, dff (by omega), trivial⟩
  · clear h_run
    rfl


theorem c23_zero (xs out : List Int) (i : Int) (h0 : 0 ≤ i) (h : i < xs.length) (hx : xs[i.toNat]? = some 0) : CodeOK prog (B23 prog) (S23 xs out i) (Exit.normal) (S23 xs out xs.length) := by
  have h_run : exMask (evCode prog [⟨3, 3, .n, tt⟩, ⟨5, 2, rb 0, .n⟩, ⟨11, 0, .n, tt⟩] [] (B23 prog) (S23 xs out i)) [0, 2, 3, 4] 1 = .yes (Exit.normal) ⟨slots 78 [(0, DV.pd (PD.ds 1 (bl xs))), (2, DV.pd PD.nils), (3, DV.sl 0 out.length), (4, DV.pd (PD.int IntKind.i64 (↑(bl xs).length : Int)))], [Ob.row 5 1 (bl out)], []⟩ [True, DV.pd (PD.bool (decide (i < (↑(bl xs).length : Int)))) = DV.pd (PD.bool true), (0 : Int) ≤ i ∧ i < (↑(bl xs).length : Int) ∧ (bl xs)[i.toNat]? = some [PD.int IntKind.u8 (0 : Int)], True, True, DV.pd (PD.bool true) = DV.pd (PD.bool true)] := by kernel_rfl
  refine (code_mask [0, 2, 3, 4] 1 h_run ?_).to ?_
  · clear h_run
    have e0 := bl_length xs
    exact ⟨trivial, dtt (by omega), rdb (by omega) (by assumption), trivial, trivial, dbb (by first | rfl | assumption), trivial⟩
  · clear h_run
    rw [bl_length]


theorem c23_one (xs out : List Int) (i : Int) (h0 : 0 ≤ i) (h : i < xs.length) (hl : xs.length ≤ 1000000) (hx : xs[i.toNat]? = some 1) : CodeOK prog (B23 prog) (S23 xs out i) (Exit.normal) (S23 xs out (i + 1)) := by
  have h_run : exMask (evCode prog [⟨3, 3, .n, tt⟩, ⟨5, 2, rb 1, .n⟩, ⟨11, 0, .n, ff⟩, ⟨13, 0, .n, tt⟩] [] (B23 prog) (S23 xs out i)) [0, 2, 3, 4] 1 = .yes (Exit.normal) ⟨slots 78 [(0, DV.pd (PD.ds 1 (bl xs))), (2, DV.pd PD.nils), (3, DV.sl 0 out.length), (4, DV.pd (PD.int IntKind.i64 (i + (1 : Int))))], [Ob.row 5 1 (bl out)], []⟩ [True, DV.pd (PD.bool (decide (i < (↑(bl xs).length : Int)))) = DV.pd (PD.bool true), (0 : Int) ≤ i ∧ i < (↑(bl xs).length : Int) ∧ (bl xs)[i.toNat]? = some [PD.int IntKind.u8 (1 : Int)], True, True, DV.pd (PD.bool false) = DV.pd (PD.bool false), True, DV.pd (PD.bool true) = DV.pd (PD.bool true), inR IntKind.i64 (i + (1 : Int))] := by kernel_rfl
  refine (code_mask [0, 2, 3, 4] 1 h_run ?_).to ?_
  · clear h_run
    have e0 := bl_length xs
    exact ⟨trivial, dtt (by omega), rdb (by omega) (by assumption), trivial, trivial, dbb (by first | rfl | assumption), trivial, dbb (by first | rfl | assumption), inR64.2 (by omega), trivial⟩
  · clear h_run
    rfl


theorem c23_bad1 (xs out : List Int) (i x : Int) (h0 : 0 ≤ i) (h : i < xs.length) (hl : xs.length ≤ 1000000) (hx : xs[i.toNat]? = some x) (n0 : ¬ x = 0) (n1 : ¬ x = 1) (b : xs.length ≤ i + 1) : CodeOK prog (B23 prog) (S23 xs out i) (Exit.normal) (S23 xs out xs.length) := by
  have h_run : exMask (evCode prog [⟨3, 3, .n, tt⟩, ⟨5, 2, rb x, .n⟩, ⟨11, 0, .n, ff⟩, ⟨13, 0, .n, ff⟩, ⟨6, 4, .n, tt⟩] [] (B23 prog) (S23 xs out i)) [0, 2, 3, 4] 1 = .yes (Exit.normal) ⟨slots 78 [(0, DV.pd (PD.ds 1 (bl xs))), (2, DV.pd PD.nils), (3, DV.sl 0 out.length), (4, DV.pd (PD.int IntKind.i64 (↑(bl xs).length : Int)))], [Ob.row 5 1 (bl out)], []⟩ [True, DV.pd (PD.bool (decide (i < (↑(bl xs).length : Int)))) = DV.pd (PD.bool true), (0 : Int) ≤ i ∧ i < (↑(bl xs).length : Int) ∧ (bl xs)[i.toNat]? = some [PD.int IntKind.u8 x], True, True, DV.pd (PD.bool (decide (x = (0 : Int)))) = DV.pd (PD.bool false), True, DV.pd (PD.bool (decide (x = (1 : Int)))) = DV.pd (PD.bool false), inR IntKind.i64 (i + (1 : Int)), True, DV.pd (PD.bool (decide (i + (1 : Int) ≥ (↑(bl xs).length : Int)))) = DV.pd (PD.bool true)] := by kernel_rfl
  refine (code_mask [0, 2, 3, 4] 1 h_run ?_).to ?_
  · clear h_run
    have e0 := bl_length xs
    exact ⟨trivial, dtt (by omega), rdb (by omega) (by assumption), trivial, trivial, dff (by omega), trivial, dff (by omega), inR64.2 (by omega), trivial, dtt (by omega), trivial⟩
  · clear h_run
    rw [bl_length]


theorem c23_bad2 (xs out : List Int) (i x n : Int) (h0 : 0 ≤ i) (_h : i < xs.length) (hl : xs.length ≤ 1000000) (hx : xs[i.toNat]? = some x) (n0 : ¬ x = 0) (n1 : ¬ x = 1) (b : i + 1 < xs.length) (hn : xs[(i + 1).toNat]? = some n) (b2 : n < 2) : CodeOK prog (B23 prog) (S23 xs out i) (Exit.normal) (S23 xs out xs.length) := by
  have h_run : exMask (evCode prog [⟨3, 3, .n, tt⟩, ⟨5, 2, rb x, .n⟩, ⟨11, 0, .n, ff⟩, ⟨13, 0, .n, ff⟩, ⟨6, 4, .n, ff⟩, ⟨6, 9, rb n, .n⟩, ⟨6, 11, .n, tt⟩] [] (B23 prog) (S23 xs out i)) [0, 2, 3, 4] 1 = .yes (Exit.normal) ⟨slots 78 [(0, DV.pd (PD.ds 1 (bl xs))), (2, DV.pd PD.nils), (3, DV.sl 0 out.length), (4, DV.pd (PD.int IntKind.i64 (↑(bl xs).length : Int)))], [Ob.row 5 1 (bl out)], []⟩ [True, DV.pd (PD.bool (decide (i < (↑(bl xs).length : Int)))) = DV.pd (PD.bool true), (0 : Int) ≤ i ∧ i < (↑(bl xs).length : Int) ∧ (bl xs)[i.toNat]? = some [PD.int IntKind.u8 x], True, True, DV.pd (PD.bool (decide (x = (0 : Int)))) = DV.pd (PD.bool false), True, DV.pd (PD.bool (decide (x = (1 : Int)))) = DV.pd (PD.bool false), inR IntKind.i64 (i + (1 : Int)), True, DV.pd (PD.bool (decide (i + (1 : Int) ≥ (↑(bl xs).length : Int)))) = DV.pd (PD.bool false), inR IntKind.i64 (i + (1 : Int)), (0 : Int) ≤ i + (1 : Int) ∧ i + (1 : Int) < (↑(bl xs).length : Int) ∧ (bl xs)[(i + (1 : Int)).toNat]? = some [PD.int IntKind.u8 n], True, True, DV.pd (PD.bool (decide (n < (2 : Int)))) = DV.pd (PD.bool true)] := by kernel_rfl
  refine (code_mask [0, 2, 3, 4] 1 h_run ?_).to ?_
  · clear h_run
    have e0 := bl_length xs
    exact ⟨trivial, dtt (by omega), rdb (by omega) (by assumption), trivial, trivial, dff (by omega), trivial, dff (by omega), inR64.2 (by omega), trivial, dff (by omega), inR64.2 (by omega), rdb (by omega) (by assumption), trivial, trivial, dtt (by omega), trivial⟩
  · clear h_run
    rw [bl_length]


theorem c23_bad3 (xs out : List Int) (i x n : Int) (h0 : 0 ≤ i) (_h : i < xs.length) (hl : xs.length ≤ 1000000) (hx : xs[i.toNat]? = some x) (n0 : ¬ x = 0) (n1 : ¬ x = 1) (b : i + 1 < xs.length) (hn : xs[(i + 1).toNat]? = some n) (b2 : 2 ≤ n) (b3 : xs.length - i < n) (b4 : n ≤ 255) : CodeOK prog (B23 prog) (S23 xs out i) (Exit.normal) (S23 xs out xs.length) := by
  have h_run : exMask (evCode prog [⟨3, 3, .n, tt⟩, ⟨5, 2, rb x, .n⟩, ⟨11, 0, .n, ff⟩, ⟨13, 0, .n, ff⟩, ⟨6, 4, .n, ff⟩, ⟨6, 9, rb n, .n⟩, ⟨6, 11, .n, ff⟩, ⟨6, 17, rb n, .n⟩, ⟨6, 24, .n, tt⟩] [] (B23 prog) (S23 xs out i)) [0, 2, 3, 4] 1 = .yes (Exit.normal) ⟨slots 78 [(0, DV.pd (PD.ds 1 (bl xs))), (2, DV.pd PD.nils), (3, DV.sl 0 out.length), (4, DV.pd (PD.int IntKind.i64 (↑(bl xs).length : Int)))], [Ob.row 5 1 (bl out)], []⟩ [True, DV.pd (PD.bool (decide (i < (↑(bl xs).length : Int)))) = DV.pd (PD.bool true), (0 : Int) ≤ i ∧ i < (↑(bl xs).length : Int) ∧ (bl xs)[i.toNat]? = some [PD.int IntKind.u8 x], True, True, DV.pd (PD.bool (decide (x = (0 : Int)))) = DV.pd (PD.bool false), True, DV.pd (PD.bool (decide (x = (1 : Int)))) = DV.pd (PD.bool false), inR IntKind.i64 (i + (1 : Int)), True, DV.pd (PD.bool (decide (i + (1 : Int) ≥ (↑(bl xs).length : Int)))) = DV.pd (PD.bool false), inR IntKind.i64 (i + (1 : Int)), (0 : Int) ≤ i + (1 : Int) ∧ i + (1 : Int) < (↑(bl xs).length : Int) ∧ (bl xs)[(i + (1 : Int)).toNat]? = some [PD.int IntKind.u8 n], True, True, DV.pd (PD.bool (decide (n < (2 : Int)))) = DV.pd (PD.bool false), inR IntKind.i64 (i + (1 : Int)), (0 : Int) ≤ i + (1 : Int) ∧ i + (1 : Int) < (↑(bl xs).length : Int) ∧ (bl xs)[(i + (1 : Int)).toNat]? = some [PD.int IntKind.u8 n], True, inR IntKind.i64 n, inR IntKind.i64 ((↑(bl xs).length : Int) - i), True, DV.pd (PD.bool (decide (n > (↑(bl xs).length : Int) - i))) = DV.pd (PD.bool true)] := by kernel_rfl
  refine (code_mask [0, 2, 3, 4] 1 h_run ?_).to ?_
  · clear h_run
    have e0 := bl_length xs
    exact ⟨trivial, dtt (by omega), rdb (by omega) (by assumption), trivial, trivial, dff (by omega), trivial, dff (by omega), inR64.2 (by omega), trivial, dff (by omega), inR64.2 (by omega), rdb (by omega) (by assumption), trivial, trivial, dff (by omega), inR64.2 (by omega), rdb (by omega) (by assumption), trivial, inR64.2 (by omega), inR64.2 (by omega), trivial, dtt (by omega), trivial⟩
  · clear h_run
    rw [bl_length]


theorem c23_low (xs out : List Int) (i x n : Int) (h0 : 0 ≤ i) (_h : i < xs.length) (hl : xs.length ≤ 1000000) (hx : xs[i.toNat]? = some x) (n0 : ¬ x = 0) (n1 : ¬ x = 1) (b : i + 1 < xs.length) (hn : xs[(i + 1).toNat]? = some n) (b2 : 2 ≤ n) (b3 : n ≤ xs.length - i) (b5 : x < 128) : CodeOK prog (B23 prog) (S23 xs out i) (Exit.normal) (S23 xs out (i + n)) := by
  have h_run : exMask (evCode prog [⟨3, 3, .n, tt⟩, ⟨5, 2, rb x, .n⟩, ⟨11, 0, .n, ff⟩, ⟨13, 0, .n, ff⟩, ⟨6, 4, .n, ff⟩, ⟨6, 9, rb n, .n⟩, ⟨6, 11, .n, ff⟩, ⟨6, 17, rb n, .n⟩, ⟨6, 24, .n, ff⟩, ⟨8, 3, rb n, .n⟩, ⟨9, 2, rb x, .n⟩, ⟨9, 4, .n, ff⟩] [] (B23 prog) (S23 xs out i)) [0, 2, 3, 4] 1 = .yes (Exit.normal) ⟨slots 78 [(0, DV.pd (PD.ds 1 (bl xs))), (2, DV.pd PD.nils), (3, DV.sl 0 out.length), (4, DV.pd (PD.int IntKind.i64 (i + n)))], [Ob.row 5 1 (bl out)], []⟩ [True, DV.pd (PD.bool (decide (i < (↑(bl xs).length : Int)))) = DV.pd (PD.bool true), (0 : Int) ≤ i ∧ i < (↑(bl xs).length : Int) ∧ (bl xs)[i.toNat]? = some [PD.int IntKind.u8 x], True, True, DV.pd (PD.bool (decide (x = (0 : Int)))) = DV.pd (PD.bool false), True, DV.pd (PD.bool (decide (x = (1 : Int)))) = DV.pd (PD.bool false), inR IntKind.i64 (i + (1 : Int)), True, DV.pd (PD.bool (decide (i + (1 : Int) ≥ (↑(bl xs).length : Int)))) = DV.pd (PD.bool false), inR IntKind.i64 (i + (1 : Int)), (0 : Int) ≤ i + (1 : Int) ∧ i + (1 : Int) < (↑(bl xs).length : Int) ∧ (bl xs)[(i + (1 : Int)).toNat]? = some [PD.int IntKind.u8 n], True, True, DV.pd (PD.bool (decide (n < (2 : Int)))) = DV.pd (PD.bool false), inR IntKind.i64 (i + (1 : Int)), (0 : Int) ≤ i + (1 : Int) ∧ i + (1 : Int) < (↑(bl xs).length : Int) ∧ (bl xs)[(i + (1 : Int)).toNat]? = some [PD.int IntKind.u8 n], True, inR IntKind.i64 n, inR IntKind.i64 ((↑(bl xs).length : Int) - i), True, DV.pd (PD.bool (decide (n > (↑(bl xs).length : Int) - i))) = DV.pd (PD.bool false), inR IntKind.i64 (i + (1 : Int)), (0 : Int) ≤ i + (1 : Int) ∧ i + (1 : Int) < (↑(bl xs).length : Int) ∧ (bl xs)[(i + (1 : Int)).toNat]? = some [PD.int IntKind.u8 n], True, inR IntKind.i64 n, (0 : Int) ≤ i ∧ i < (↑(bl xs).length : Int) ∧ (bl xs)[i.toNat]? = some [PD.int IntKind.u8 x], True, True, DV.pd (PD.bool (decide (x ≥ (128 : Int)))) = DV.pd (PD.bool false), inR IntKind.i64 (i + n)] := by kernel_rfl
  refine (code_mask [0, 2, 3, 4] 1 h_run ?_).to ?_
  · clear h_run
    have e0 := bl_length xs
    exact ⟨trivial, dtt (by omega), rdb (by omega) (by assumption), trivial, trivial, dff (by omega), trivial, dff (by omega), inR64.2 (by omega), trivial, dff (by omega), inR64.2 (by omega), rdb (by omega) (by assumption), trivial, trivial, dff (by omega), inR64.2 (by omega), rdb (by omega) (by assumption), trivial, inR64.2 (by omega), inR64.2 (by omega), trivial, dff (by omega), inR64.2 (by omega), rdb (by omega) (by assumption), trivial, inR64.2 (by omega), rdb (by omega) (by assumption), trivial, trivial, dff (by omega), inR64.2 (by omega), trivial⟩
  · clear h_run
    rfl


theorem c23_high (xs out : List Int) (i x n : Int) (h0 : 0 ≤ i) (_h : i < xs.length) (hl : xs.length ≤ 1000000) (ho : out.length ≤ 1000000) (hx : xs[i.toNat]? = some x) (n0 : ¬ x = 0) (n1 : ¬ x = 1) (b : i + 1 < xs.length) (hn : xs[(i + 1).toNat]? = some n) (b2 : 2 ≤ n) (b3 : n ≤ xs.length - i) (b5 : 128 ≤ x) : CodeOK prog (B23 prog) (S23 xs out i) (Exit.normal) (S23 xs (out ++ (xs.take (i + n).toNat).drop i.toNat) (i + n)) := by
  have h_run : exMask (evCode prog [⟨3, 3, .n, tt⟩, ⟨5, 2, rb x, .n⟩, ⟨11, 0, .n, ff⟩, ⟨13, 0, .n, ff⟩, ⟨6, 4, .n, ff⟩, ⟨6, 9, rb n, .n⟩, ⟨6, 11, .n, ff⟩, ⟨6, 17, rb n, .n⟩, ⟨6, 24, .n, ff⟩, ⟨8, 3, rb n, .n⟩, ⟨9, 2, rb x, .n⟩, ⟨9, 4, .n, tt⟩, ⟨10, 6, .n, .eq (.pd (nb ((xs.take (i + n).toNat).drop i.toNat)))⟩] [] (B23 prog) (S23 xs out i)) [0, 2, 3, 4] 1 = .yes (Exit.normal) ⟨slots 78 [(0, DV.pd (PD.ds 1 (bl xs))), (2, DV.pd PD.nils), (3, DV.sl 0 (bl out ++ bl (List.drop i.toNat (List.take (i + n).toNat xs))).length), (4, DV.pd (PD.int IntKind.i64 (i + n)))], [Ob.row 5 1 (bl out ++ bl (List.drop i.toNat (List.take (i + n).toNat xs)))], []⟩ [True, DV.pd (PD.bool (decide (i < (↑(bl xs).length : Int)))) = DV.pd (PD.bool true), (0 : Int) ≤ i ∧ i < (↑(bl xs).length : Int) ∧ (bl xs)[i.toNat]? = some [PD.int IntKind.u8 x], True, True, DV.pd (PD.bool (decide (x = (0 : Int)))) = DV.pd (PD.bool false), True, DV.pd (PD.bool (decide (x = (1 : Int)))) = DV.pd (PD.bool false), inR IntKind.i64 (i + (1 : Int)), True, DV.pd (PD.bool (decide (i + (1 : Int) ≥ (↑(bl xs).length : Int)))) = DV.pd (PD.bool false), inR IntKind.i64 (i + (1 : Int)), (0 : Int) ≤ i + (1 : Int) ∧ i + (1 : Int) < (↑(bl xs).length : Int) ∧ (bl xs)[(i + (1 : Int)).toNat]? = some [PD.int IntKind.u8 n], True, True, DV.pd (PD.bool (decide (n < (2 : Int)))) = DV.pd (PD.bool false), inR IntKind.i64 (i + (1 : Int)), (0 : Int) ≤ i + (1 : Int) ∧ i + (1 : Int) < (↑(bl xs).length : Int) ∧ (bl xs)[(i + (1 : Int)).toNat]? = some [PD.int IntKind.u8 n], True, inR IntKind.i64 n, inR IntKind.i64 ((↑(bl xs).length : Int) - i), True, DV.pd (PD.bool (decide (n > (↑(bl xs).length : Int) - i))) = DV.pd (PD.bool false), inR IntKind.i64 (i + (1 : Int)), (0 : Int) ≤ i + (1 : Int) ∧ i + (1 : Int) < (↑(bl xs).length : Int) ∧ (bl xs)[(i + (1 : Int)).toNat]? = some [PD.int IntKind.u8 n], True, inR IntKind.i64 n, (0 : Int) ≤ i ∧ i < (↑(bl xs).length : Int) ∧ (bl xs)[i.toNat]? = some [PD.int IntKind.u8 x], True, True, DV.pd (PD.bool (decide (x ≥ (128 : Int)))) = DV.pd (PD.bool true), inR IntKind.i64 (i + n), (0 : Int) ≤ i ∧ i ≤ i + n ∧ i + n ≤ (↑(bl xs).length : Int), DV.pd (PD.ds 1 (List.drop i.toNat (List.take (i + n).toNat (bl xs)))) = DV.pd (PD.ds 1 (bl (List.drop i.toNat (List.take (i + n).toNat xs)))), out.length = (bl out).length ∧ ((bl out).length + (bl (List.drop i.toNat (List.take (i + n).toNat xs))).length) * 1 ≤ 140737488355328 ∧ (bl out).length + (bl (List.drop i.toNat (List.take (i + n).toNat xs))).length ≤ 9223372036854775807, inR IntKind.i64 (i + n)] := by kernel_rfl
  refine (code_mask [0, 2, 3, 4] 1 h_run ?_).to ?_
  · clear h_run
    have e0 := bl_length xs
    have e1 := bl_length out
    have e2 := bl_length (List.drop i.toNat (List.take (i + n).toNat xs))
    have f2 := len_dt xs (i + n).toNat i.toNat
    exact ⟨trivial, dtt (by omega), rdb (by omega) (by assumption), trivial, trivial, dff (by omega), trivial, dff (by omega), inR64.2 (by omega), trivial, dff (by omega), inR64.2 (by omega), rdb (by omega) (by assumption), trivial, trivial, dff (by omega), inR64.2 (by omega), rdb (by omega) (by assumption), trivial, inR64.2 (by omega), inR64.2 (by omega), trivial, dff (by omega), inR64.2 (by omega), rdb (by omega) (by assumption), trivial, inR64.2 (by omega), rdb (by omega) (by assumption), trivial, trivial, dtt (by omega), inR64.2 (by omega), by omega, by first | exact bcutT _ _ | exact bcutD _ _ | exact bcutTD _ _ _, by omega, inR64.2 (by omega), trivial⟩
  · clear h_run
    rw [bl_append, bl_length]


/-- What later fragments have of options, before it is filled up. -/
def cop (xs : List Int) : Nat → Nat → List Int → List Int
  | 0, _, out => out
  | f + 1, i, out => match xs[i]? with
    | none => out
    | some x => if x = 0 then out else if x = 1 then cop xs f (i + 1) out else match xs[i + 1]? with
      | none => out
      | some n => if n < 2 ∨ xs.length - i < n then out else cop xs f (i + n.toNat) (if 128 ≤ x then out ++ (xs.take (i + n.toNat)).drop i else out)
theorem loop23 (xs : List Int) (hb : ∀ x ∈ xs, 0 ≤ x ∧ x ≤ 255) (hl : xs.length ≤ 1000000) : ∀ (f i : Nat) (out : List Int), xs.length ≤ i + f → i ≤ xs.length → out.length ≤ i →
    LoopOK prog (B23 prog) (S23 xs out i) (.exit 0) (T23 xs (cop xs f i out))
  | 0, i, out, hf, hi, ho => .out (c23_end xs out i (by omega)) (by simp)
  | f + 1, i, out, hf, hi, ho => by
    have fin : ∀ j : Int, ¬ j < xs.length → LoopOK prog (B23 prog) (S23 xs out j) (.exit 0) (T23 xs out) := fun j hj => .out (c23_end xs out j hj) (by simp)
    unfold cop
    split
    · rename_i hx
      exact fin i (by have := List.getElem?_eq_none_iff.1 hx; omega)
    · rename_i x hx
      have hlt := (List.getElem?_eq_some_iff.1 hx).1
      have hx' : xs[(i : Int).toNat]? = some x := by simpa using hx
      split
      · rename_i h0
        subst h0
        exact .step (c23_zero xs out i (by omega) (by omega) hx') (fin _ (by omega))
      · rename_i h0
        split
        · rename_i h1
          subst h1
          exact .step (c23_one xs out i (by omega) (by omega) hl hx') (by simpa using loop23 xs hb hl f (i + 1) out (by omega) (by omega) (by omega))
        · rename_i h1
          split
          · rename_i hn
            have := List.getElem?_eq_none_iff.1 hn
            exact .step (c23_bad1 xs out i x (by omega) (by omega) hl hx' h0 h1 (by omega)) (fin _ (by omega))
          · rename_i n hn
            have hlt' := (List.getElem?_eq_some_iff.1 hn).1
            have hn' : xs[((i : Int) + 1).toNat]? = some n := by
              have : ((i : Int) + 1).toNat = i + 1 := by omega
              rw [this]; exact hn
            have hnb := hb n (List.mem_of_getElem? hn)
            split
            · rename_i hbad
              by_cases h2 : n < 2
              · exact .step (c23_bad2 xs out i x n (by omega) (by omega) hl hx' h0 h1 (by omega) hn' h2) (fin _ (by omega))
              · exact .step (c23_bad3 xs out i x n (by omega) (by omega) hl hx' h0 h1 (by omega) hn' (by omega) (by omega) (by omega)) (fin _ (by omega))
            · rename_i hok
              have hin : (((i + n.toNat : Nat)) : Int) = i + n := by omega
              have key : ∀ out', out'.length ≤ i + n.toNat → LoopOK prog (B23 prog) (S23 xs out' ((i : Int) + n)) (.exit 0) (T23 xs (cop xs f (i + n.toNat) out')) := by
                intro out' ho'
                have := loop23 xs hb hl f (i + n.toNat) out' (by omega) (by omega) ho'
                rwa [hin] at this
              split
              · rename_i h128
                have hcut : (xs.take ((i : Int) + n).toNat).drop (i : Int).toNat = (xs.take (i + n.toNat)).drop i := by
                  have : ((i : Int) + n).toNat = i + n.toNat := by omega
                  rw [this]; simp
                have hlen := len_dt xs (i + n.toNat) i
                have := c23_high xs out i x n (by omega) (by omega) hl (by omega) hx' h0 h1 (by omega) hn' (by omega) (by omega) h128
                rw [hcut] at this
                exact .step this (key _ (by rw [List.length_append]; omega))
              · exact .step (c23_low xs out i x n (by omega) (by omega) hl hx' h0 h1 (by omega) hn' (by omega) (by omega) (by omega)) (key _ (by omega))
end Go.FI
