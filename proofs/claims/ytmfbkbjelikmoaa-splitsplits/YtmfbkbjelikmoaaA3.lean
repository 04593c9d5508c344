import Derived.Test.YtmfbkbjelikmoaaA2
namespace Go.FI
open Go.Proofs.Try

abbrev S17 (xs out : List Int) (i : Int) : St := ⟨slots 80 [(0, .pd (nb xs)), (2, .pd .nils), (3, .sl 0 out.length), (4, .pd (ni i))], [.row 5 1 (bl out)], []⟩
abbrev T17 (xs out : List Int) : St := ⟨slots 80 [(0, .pd (nb xs)), (2, .pd .nils), (3, .sl 0 out.length)], [.row 5 1 (bl out)], []⟩
abbrev B17 (P : Program) : Code := loopBody (fcode P 17 0 3)
abbrev B17b (P : Program) : Code := loopBody (fcode P 17 0 11)

theorem c17_end (xs out : List Int) (i : Int) (h : ¬ i < xs.length) : CodeOK prog (B17 prog) (S17 xs out i) (Exit.exit 0) (T17 xs out) := by
  have h_run : exMask (evCode prog [⟨3, 3, .n, ff⟩] [] (B17 prog) (S17 xs out i)) [0, 2, 3] 1 = .yes (Exit.exit 0) ⟨slots 80 [(0, DV.pd (PD.ds 1 (bl xs))), (2, DV.pd PD.nils), (3, DV.sl 0 out.length)], [Ob.row 5 1 (bl out)], []⟩ [True, DV.pd (PD.bool (decide (i < (↑(bl xs).length : Int)))) = DV.pd (PD.bool false)] := by kernel_rfl
  refine (code_mask [0, 2, 3] 1 h_run ?_).to ?_
  · clear h_run
    have e0 := bl_length xs
    exact ⟨trivial, dff (by omega), trivial⟩
  · clear h_run
    rfl

theorem c17_zero (xs out : List Int) (i : Int) (h0 : 0 ≤ i) (h : i < xs.length) (hx : xs[i.toNat]? = some 0) : CodeOK prog (B17 prog) (S17 xs out i) (Exit.exit 0) (T17 xs out) := by
  have h_run : exMask (evCode prog [⟨3, 3, .n, tt⟩, ⟨3, 7, rb 0, .n⟩, ⟨3, 9, .n, ff⟩] [] (B17 prog) (S17 xs out i)) [0, 2, 3] 1 = .yes (Exit.exit 0) ⟨slots 80 [(0, DV.pd (PD.ds 1 (bl xs))), (2, DV.pd PD.nils), (3, DV.sl 0 out.length)], [Ob.row 5 1 (bl out)], []⟩ [True, DV.pd (PD.bool (decide (i < (↑(bl xs).length : Int)))) = DV.pd (PD.bool true), (0 : Int) ≤ i ∧ i < (↑(bl xs).length : Int) ∧ (bl xs)[i.toNat]? = some [PD.int IntKind.u8 (0 : Int)], True, True, DV.pd (PD.bool ((0 : Int) != (0 : Int))) = DV.pd (PD.bool false)] := by kernel_rfl
  refine (code_mask [0, 2, 3] 1 h_run ?_).to ?_
  · clear h_run
    have e0 := bl_length xs
    exact ⟨trivial, dtt (by omega), rdb (by omega) (by assumption), trivial, trivial, dnF (by omega), trivial⟩
  · clear h_run
    rfl

theorem c17_one (xs out : List Int) (i : Int) (h0 : 0 ≤ i) (h : i < xs.length) (hl : xs.length ≤ 1000000) (hx : xs[i.toNat]? = some 1) : CodeOK prog (B17 prog) (S17 xs out i) (Exit.normal) (S17 xs out (i + 1)) := by
  have h_run : exMask (evCode prog [⟨3, 3, .n, tt⟩, ⟨3, 7, rb 1, .n⟩, ⟨3, 9, .n, tt⟩, ⟨4, 2, rb 1, .n⟩, ⟨4, 4, .n, tt⟩] [] (B17 prog) (S17 xs out i)) [0, 2, 3, 4] 1 = .yes (Exit.normal) ⟨slots 80 [(0, DV.pd (PD.ds 1 (bl xs))), (2, DV.pd PD.nils), (3, DV.sl 0 out.length), (4, DV.pd (PD.int IntKind.i64 (i + (1 : Int))))], [Ob.row 5 1 (bl out)], []⟩ [True, DV.pd (PD.bool (decide (i < (↑(bl xs).length : Int)))) = DV.pd (PD.bool true), (0 : Int) ≤ i ∧ i < (↑(bl xs).length : Int) ∧ (bl xs)[i.toNat]? = some [PD.int IntKind.u8 (1 : Int)], True, True, DV.pd (PD.bool ((1 : Int) != (0 : Int))) = DV.pd (PD.bool true), (0 : Int) ≤ i ∧ i < (↑(bl xs).length : Int) ∧ (bl xs)[i.toNat]? = some [PD.int IntKind.u8 (1 : Int)], True, True, DV.pd (PD.bool true) = DV.pd (PD.bool true), inR IntKind.i64 (i + (1 : Int))] := by kernel_rfl
  refine (code_mask [0, 2, 3, 4] 1 h_run ?_).to ?_
  · clear h_run
    have e0 := bl_length xs
    exact ⟨trivial, dtt (by omega), rdb (by omega) (by assumption), trivial, trivial, dnT (by omega), rdb (by omega) (by assumption), trivial, trivial, dbb (by first | rfl | assumption), inR64.2 (by omega), trivial⟩
  · clear h_run
    rfl

theorem c17_bad1 (xs out : List Int) (i x : Int) (h0 : 0 ≤ i) (h : i < xs.length) (hl : xs.length ≤ 1000000) (hx : xs[i.toNat]? = some x) (n0 : ¬ x = 0) (n1 : ¬ x = 1) (b : xs.length ≤ i + 1) : CodeOK prog (B17 prog) (S17 xs out i) (Exit.exit 0) (T17 xs out) := by
  have h_run : exMask (evCode prog [⟨3, 3, .n, tt⟩, ⟨3, 7, rb x, .n⟩, ⟨3, 9, .n, tt⟩, ⟨4, 2, rb x, .n⟩, ⟨4, 4, .n, ff⟩, ⟨6, 4, .n, tt⟩] [] (B17 prog) (S17 xs out i)) [0, 2, 3] 1 = .yes (Exit.exit 0) ⟨slots 80 [(0, DV.pd (PD.ds 1 (bl xs))), (2, DV.pd PD.nils), (3, DV.sl 0 out.length)], [Ob.row 5 1 (bl out)], []⟩ [True, DV.pd (PD.bool (decide (i < (↑(bl xs).length : Int)))) = DV.pd (PD.bool true), (0 : Int) ≤ i ∧ i < (↑(bl xs).length : Int) ∧ (bl xs)[i.toNat]? = some [PD.int IntKind.u8 x], True, True, DV.pd (PD.bool (x != (0 : Int))) = DV.pd (PD.bool true), (0 : Int) ≤ i ∧ i < (↑(bl xs).length : Int) ∧ (bl xs)[i.toNat]? = some [PD.int IntKind.u8 x], True, True, DV.pd (PD.bool (decide (x = (1 : Int)))) = DV.pd (PD.bool false), inR IntKind.i64 (i + (1 : Int)), True, DV.pd (PD.bool (decide (i + (1 : Int) ≥ (↑(bl xs).length : Int)))) = DV.pd (PD.bool true)] := by kernel_rfl
  refine (code_mask [0, 2, 3] 1 h_run ?_).to ?_
  · clear h_run
    have e0 := bl_length xs
    exact ⟨trivial, dtt (by omega), rdb (by omega) (by assumption), trivial, trivial, dnT (by omega), rdb (by omega) (by assumption), trivial, trivial, dff (by omega), inR64.2 (by omega), trivial, dtt (by omega), trivial⟩
  · clear h_run
    rfl

theorem c17_bad2 (xs out : List Int) (i x n : Int) (h0 : 0 ≤ i) (_h : i < xs.length) (hl : xs.length ≤ 1000000) (hx : xs[i.toNat]? = some x) (n0 : ¬ x = 0) (n1 : ¬ x = 1) (b : i + 1 < xs.length) (hn : xs[(i + 1).toNat]? = some n) (b2 : n < 2) : CodeOK prog (B17 prog) (S17 xs out i) (Exit.exit 0) (T17 xs out) := by
  have h_run : exMask (evCode prog [⟨3, 3, .n, tt⟩, ⟨3, 7, rb x, .n⟩, ⟨3, 9, .n, tt⟩, ⟨4, 2, rb x, .n⟩, ⟨4, 4, .n, ff⟩, ⟨6, 4, .n, ff⟩, ⟨6, 9, rb n, .n⟩, ⟨6, 11, .n, tt⟩] [] (B17 prog) (S17 xs out i)) [0, 2, 3] 1 = .yes (Exit.exit 0) ⟨slots 80 [(0, DV.pd (PD.ds 1 (bl xs))), (2, DV.pd PD.nils), (3, DV.sl 0 out.length)], [Ob.row 5 1 (bl out)], []⟩ [True, DV.pd (PD.bool (decide (i < (↑(bl xs).length : Int)))) = DV.pd (PD.bool true), (0 : Int) ≤ i ∧ i < (↑(bl xs).length : Int) ∧ (bl xs)[i.toNat]? = some [PD.int IntKind.u8 x], True, True, DV.pd (PD.bool (x != (0 : Int))) = DV.pd (PD.bool true), (0 : Int) ≤ i ∧ i < (↑(bl xs).length : Int) ∧ (bl xs)[i.toNat]? = some [PD.int IntKind.u8 x], True, True, DV.pd (PD.bool (decide (x = (1 : Int)))) = DV.pd (PD.bool false), inR IntKind.i64 (i + (1 : Int)), True, DV.pd (PD.bool (decide (i + (1 : Int) ≥ (↑(bl xs).length : Int)))) = DV.pd (PD.bool false), inR IntKind.i64 (i + (1 : Int)), (0 : Int) ≤ i + (1 : Int) ∧ i + (1 : Int) < (↑(bl xs).length : Int) ∧ (bl xs)[(i + (1 : Int)).toNat]? = some [PD.int IntKind.u8 n], True, True, DV.pd (PD.bool (decide (n < (2 : Int)))) = DV.pd (PD.bool true)] := by kernel_rfl
  refine (code_mask [0, 2, 3] 1 h_run ?_).to ?_
  · clear h_run
    have e0 := bl_length xs
    exact ⟨trivial, dtt (by omega), rdb (by omega) (by assumption), trivial, trivial, dnT (by omega), rdb (by omega) (by assumption), trivial, trivial, dff (by omega), inR64.2 (by omega), trivial, dff (by omega), inR64.2 (by omega), rdb (by omega) (by assumption), trivial, trivial, dtt (by omega), trivial⟩
  · clear h_run
    rfl

theorem c17_bad3 (xs out : List Int) (i x n : Int) (h0 : 0 ≤ i) (_h : i < xs.length) (hl : xs.length ≤ 1000000) (hx : xs[i.toNat]? = some x) (n0 : ¬ x = 0) (n1 : ¬ x = 1) (b : i + 1 < xs.length) (hn : xs[(i + 1).toNat]? = some n) (b2 : 2 ≤ n) (b3 : xs.length - i < n) (b4 : n ≤ 255) : CodeOK prog (B17 prog) (S17 xs out i) (Exit.exit 0) (T17 xs out) := by
  have h_run : exMask (evCode prog [⟨3, 3, .n, tt⟩, ⟨3, 7, rb x, .n⟩, ⟨3, 9, .n, tt⟩, ⟨4, 2, rb x, .n⟩, ⟨4, 4, .n, ff⟩, ⟨6, 4, .n, ff⟩, ⟨6, 9, rb n, .n⟩, ⟨6, 11, .n, ff⟩, ⟨6, 17, rb n, .n⟩, ⟨6, 24, .n, tt⟩] [] (B17 prog) (S17 xs out i)) [0, 2, 3] 1 = .yes (Exit.exit 0) ⟨slots 80 [(0, DV.pd (PD.ds 1 (bl xs))), (2, DV.pd PD.nils), (3, DV.sl 0 out.length)], [Ob.row 5 1 (bl out)], []⟩ [True, DV.pd (PD.bool (decide (i < (↑(bl xs).length : Int)))) = DV.pd (PD.bool true), (0 : Int) ≤ i ∧ i < (↑(bl xs).length : Int) ∧ (bl xs)[i.toNat]? = some [PD.int IntKind.u8 x], True, True, DV.pd (PD.bool (x != (0 : Int))) = DV.pd (PD.bool true), (0 : Int) ≤ i ∧ i < (↑(bl xs).length : Int) ∧ (bl xs)[i.toNat]? = some [PD.int IntKind.u8 x], True, True, DV.pd (PD.bool (decide (x = (1 : Int)))) = DV.pd (PD.bool false), inR IntKind.i64 (i + (1 : Int)), True, DV.pd (PD.bool (decide (i + (1 : Int) ≥ (↑(bl xs).length : Int)))) = DV.pd (PD.bool false), inR IntKind.i64 (i + (1 : Int)), (0 : Int) ≤ i + (1 : Int) ∧ i + (1 : Int) < (↑(bl xs).length : Int) ∧ (bl xs)[(i + (1 : Int)).toNat]? = some [PD.int IntKind.u8 n], True, True, DV.pd (PD.bool (decide (n < (2 : Int)))) = DV.pd (PD.bool false), inR IntKind.i64 (i + (1 : Int)), (0 : Int) ≤ i + (1 : Int) ∧ i + (1 : Int) < (↑(bl xs).length : Int) ∧ (bl xs)[(i + (1 : Int)).toNat]? = some [PD.int IntKind.u8 n], True, inR IntKind.i64 n, inR IntKind.i64 ((↑(bl xs).length : Int) - i), True, DV.pd (PD.bool (decide (n > (↑(bl xs).length : Int) - i))) = DV.pd (PD.bool true)] := by kernel_rfl
  refine (code_mask [0, 2, 3] 1 h_run ?_).to ?_
  · clear h_run
    have e0 := bl_length xs
    exact ⟨trivial, dtt (by omega), rdb (by omega) (by assumption), trivial, trivial, dnT (by omega), rdb (by omega) (by assumption), trivial, trivial, dff (by omega), inR64.2 (by omega), trivial, dff (by omega), inR64.2 (by omega), rdb (by omega) (by assumption), trivial, trivial, dff (by omega), inR64.2 (by omega), rdb (by omega) (by assumption), trivial, inR64.2 (by omega), inR64.2 (by omega), trivial, dtt (by omega), trivial⟩
  · clear h_run
    rfl

theorem c17_low (xs out : List Int) (i x n : Int) (h0 : 0 ≤ i) (_h : i < xs.length) (hl : xs.length ≤ 1000000) (hx : xs[i.toNat]? = some x) (n0 : ¬ x = 0) (n1 : ¬ x = 1) (b : i + 1 < xs.length) (hn : xs[(i + 1).toNat]? = some n) (b2 : 2 ≤ n) (b3 : n ≤ xs.length - i) (b5 : x < 128) : CodeOK prog (B17 prog) (S17 xs out i) (Exit.normal) (S17 xs out (i + n)) := by
  have h_run : exMask (evCode prog [⟨3, 3, .n, tt⟩, ⟨3, 7, rb x, .n⟩, ⟨3, 9, .n, tt⟩, ⟨4, 2, rb x, .n⟩, ⟨4, 4, .n, ff⟩, ⟨6, 4, .n, ff⟩, ⟨6, 9, rb n, .n⟩, ⟨6, 11, .n, ff⟩, ⟨6, 17, rb n, .n⟩, ⟨6, 24, .n, ff⟩, ⟨7, 3, rb n, .n⟩, ⟨8, 2, rb x, .n⟩, ⟨8, 4, .n, ff⟩] [] (B17 prog) (S17 xs out i)) [0, 2, 3, 4] 1 = .yes (Exit.normal) ⟨slots 80 [(0, DV.pd (PD.ds 1 (bl xs))), (2, DV.pd PD.nils), (3, DV.sl 0 out.length), (4, DV.pd (PD.int IntKind.i64 (i + n)))], [Ob.row 5 1 (bl out)], []⟩ [True, DV.pd (PD.bool (decide (i < (↑(bl xs).length : Int)))) = DV.pd (PD.bool true), (0 : Int) ≤ i ∧ i < (↑(bl xs).length : Int) ∧ (bl xs)[i.toNat]? = some [PD.int IntKind.u8 x], True, True, DV.pd (PD.bool (x != (0 : Int))) = DV.pd (PD.bool true), (0 : Int) ≤ i ∧ i < (↑(bl xs).length : Int) ∧ (bl xs)[i.toNat]? = some [PD.int IntKind.u8 x], True, True, DV.pd (PD.bool (decide (x = (1 : Int)))) = DV.pd (PD.bool false), inR IntKind.i64 (i + (1 : Int)), True, DV.pd (PD.bool (decide (i + (1 : Int) ≥ (↑(bl xs).length : Int)))) = DV.pd (PD.bool false), inR IntKind.i64 (i + (1 : Int)), (0 : Int) ≤ i + (1 : Int) ∧ i + (1 : Int) < (↑(bl xs).length : Int) ∧ (bl xs)[(i + (1 : Int)).toNat]? = some [PD.int IntKind.u8 n], True, True, DV.pd (PD.bool (decide (n < (2 : Int)))) = DV.pd (PD.bool false), inR IntKind.i64 (i + (1 : Int)), (0 : Int) ≤ i + (1 : Int) ∧ i + (1 : Int) < (↑(bl xs).length : Int) ∧ (bl xs)[(i + (1 : Int)).toNat]? = some [PD.int IntKind.u8 n], True, inR IntKind.i64 n, inR IntKind.i64 ((↑(bl xs).length : Int) - i), True, DV.pd (PD.bool (decide (n > (↑(bl xs).length : Int) - i))) = DV.pd (PD.bool false), inR IntKind.i64 (i + (1 : Int)), (0 : Int) ≤ i + (1 : Int) ∧ i + (1 : Int) < (↑(bl xs).length : Int) ∧ (bl xs)[(i + (1 : Int)).toNat]? = some [PD.int IntKind.u8 n], True, inR IntKind.i64 n, (0 : Int) ≤ i ∧ i < (↑(bl xs).length : Int) ∧ (bl xs)[i.toNat]? = some [PD.int IntKind.u8 x], True, True, DV.pd (PD.bool (decide (x ≥ (128 : Int)))) = DV.pd (PD.bool false), inR IntKind.i64 (i + n)] := by kernel_rfl
  refine (code_mask [0, 2, 3, 4] 1 h_run ?_).to ?_
  · clear h_run
    have e0 := bl_length xs
    exact ⟨trivial, dtt (by omega), rdb (by omega) (by assumption), trivial, trivial, dnT (by omega), rdb (by omega) (by assumption), trivial, trivial, dff (by omega), inR64.2 (by omega), trivial, dff (by omega), inR64.2 (by omega), rdb (by omega) (by assumption), trivial, trivial, dff (by omega), inR64.2 (by omega), rdb (by omega) (by assumption), trivial, inR64.2 (by omega), inR64.2 (by omega), trivial, dff (by omega), inR64.2 (by omega), rdb (by omega) (by assumption), trivial, inR64.2 (by omega), rdb (by omega) (by assumption), trivial, trivial, dff (by omega), inR64.2 (by omega), trivial⟩
  · clear h_run
    rfl

theorem c17_high (xs out : List Int) (i x n : Int) (h0 : 0 ≤ i) (_h : i < xs.length) (hl : xs.length ≤ 1000000) (ho : out.length ≤ 1000000) (hx : xs[i.toNat]? = some x) (n0 : ¬ x = 0) (n1 : ¬ x = 1) (b : i + 1 < xs.length) (hn : xs[(i + 1).toNat]? = some n) (b2 : 2 ≤ n) (b3 : n ≤ xs.length - i) (b5 : 128 ≤ x) : CodeOK prog (B17 prog) (S17 xs out i) (Exit.normal) (S17 xs (out ++ (xs.take (i + n).toNat).drop i.toNat) (i + n)) := by
  have h_run : exMask (evCode prog [⟨3, 3, .n, tt⟩, ⟨3, 7, rb x, .n⟩, ⟨3, 9, .n, tt⟩, ⟨4, 2, rb x, .n⟩, ⟨4, 4, .n, ff⟩, ⟨6, 4, .n, ff⟩, ⟨6, 9, rb n, .n⟩, ⟨6, 11, .n, ff⟩, ⟨6, 17, rb n, .n⟩, ⟨6, 24, .n, ff⟩, ⟨7, 3, rb n, .n⟩, ⟨8, 2, rb x, .n⟩, ⟨8, 4, .n, tt⟩, ⟨9, 6, .n, .eq (.pd (nb ((xs.take (i + n).toNat).drop i.toNat)))⟩] [] (B17 prog) (S17 xs out i)) [0, 2, 3, 4] 1 = .yes (Exit.normal) ⟨slots 80 [(0, DV.pd (PD.ds 1 (bl xs))), (2, DV.pd PD.nils), (3, DV.sl 0 (bl out ++ bl (List.drop i.toNat (List.take (i + n).toNat xs))).length), (4, DV.pd (PD.int IntKind.i64 (i + n)))], [Ob.row 5 1 (bl out ++ bl (List.drop i.toNat (List.take (i + n).toNat xs)))], []⟩ [True, DV.pd (PD.bool (decide (i < (↑(bl xs).length : Int)))) = DV.pd (PD.bool true), (0 : Int) ≤ i ∧ i < (↑(bl xs).length : Int) ∧ (bl xs)[i.toNat]? = some [PD.int IntKind.u8 x], True, True, DV.pd (PD.bool (x != (0 : Int))) = DV.pd (PD.bool true), (0 : Int) ≤ i ∧ i < (↑(bl xs).length : Int) ∧ (bl xs)[i.toNat]? = some [PD.int IntKind.u8 x], True, True, DV.pd (PD.bool (decide (x = (1 : Int)))) = DV.pd (PD.bool false), inR IntKind.i64 (i + (1 : Int)), True, DV.pd (PD.bool (decide (i + (1 : Int) ≥ (↑(bl xs).length : Int)))) = DV.pd (PD.bool false), inR IntKind.i64 (i + (1 : Int)), (0 : Int) ≤ i + (1 : Int) ∧ i + (1 : Int) < (↑(bl xs).length : Int) ∧ (bl xs)[(i + (1 : Int)).toNat]? = some [PD.int IntKind.u8 n], True, True, DV.pd (PD.bool (decide (n < (2 : Int)))) = DV.pd (PD.bool false), inR IntKind.i64 (i + (1 : Int)), (0 : Int) ≤ i + (1 : Int) ∧ i + (1 : Int) < (↑(bl xs).length : Int) ∧ (bl xs)[(i + (1 : Int)).toNat]? = some [PD.int IntKind.u8 n], True, inR IntKind.i64 n, inR IntKind.i64 ((↑(bl xs).length : Int) - i), True, DV.pd (PD.bool (decide (n > (↑(bl xs).length : Int) - i))) = DV.pd (PD.bool false), inR IntKind.i64 (i + (1 : Int)), (0 : Int) ≤ i + (1 : Int) ∧ i + (1 : Int) < (↑(bl xs).length : Int) ∧ (bl xs)[(i + (1 : Int)).toNat]? = some [PD.int IntKind.u8 n], True, inR IntKind.i64 n, (0 : Int) ≤ i ∧ i < (↑(bl xs).length : Int) ∧ (bl xs)[i.toNat]? = some [PD.int IntKind.u8 x], True, True, DV.pd (PD.bool (decide (x ≥ (128 : Int)))) = DV.pd (PD.bool true), inR IntKind.i64 (i + n), (0 : Int) ≤ i ∧ i ≤ i + n ∧ i + n ≤ (↑(bl xs).length : Int), DV.pd (PD.ds 1 (List.drop i.toNat (List.take (i + n).toNat (bl xs)))) = DV.pd (PD.ds 1 (bl (List.drop i.toNat (List.take (i + n).toNat xs)))), out.length = (bl out).length ∧ ((bl out).length + (bl (List.drop i.toNat (List.take (i + n).toNat xs))).length) * 1 ≤ 140737488355328 ∧ (bl out).length + (bl (List.drop i.toNat (List.take (i + n).toNat xs))).length ≤ 9223372036854775807, inR IntKind.i64 (i + n)] := by kernel_rfl
  refine (code_mask [0, 2, 3, 4] 1 h_run ?_).to ?_
  · clear h_run
    have e0 := bl_length xs
    have e1 := bl_length out
    have e2 := bl_length (List.drop i.toNat (List.take (i + n).toNat xs))
    have f2 := len_dt xs (i + n).toNat i.toNat
    exact ⟨trivial, dtt (by omega), rdb (by omega) (by assumption), trivial, trivial, dnT (by omega), rdb (by omega) (by assumption), trivial, trivial, dff (by omega), inR64.2 (by omega), trivial, dff (by omega), inR64.2 (by omega), rdb (by omega) (by assumption), trivial, trivial, dff (by omega), inR64.2 (by omega), rdb (by omega) (by assumption), trivial, inR64.2 (by omega), inR64.2 (by omega), trivial, dff (by omega), inR64.2 (by omega), rdb (by omega) (by assumption), trivial, inR64.2 (by omega), rdb (by omega) (by assumption), trivial, trivial, dtt (by omega), inR64.2 (by omega), by omega, by first | exact bcutT _ _ | exact bcutD _ _ | exact bcutTD _ _ _, by omega, inR64.2 (by omega), trivial⟩
  · clear h_run
    rw [bl_append, bl_length]

theorem loop17 (xs : List Int) (hb : ∀ x ∈ xs, 0 ≤ x ∧ x ≤ 255) (hl : xs.length ≤ 1000000) : ∀ (f i : Nat) (out : List Int), xs.length ≤ i + f → i ≤ xs.length → out.length ≤ i →
    LoopOK prog (B17 prog) (S17 xs out i) (.exit 0) (T17 xs (cop xs f i out))
  | 0, i, out, hf, hi, ho => .out (c17_end xs out i (by omega)) (by simp)
  | f + 1, i, out, hf, hi, ho => by
    have fin : ∀ j : Int, ¬ j < xs.length → LoopOK prog (B17 prog) (S17 xs out j) (.exit 0) (T17 xs out) := fun j hj => .out (c17_end xs out j hj) (by simp)
    unfold cop
    split
    · rename_i hx
      exact fin i (by have := List.getElem?_eq_none_iff.1 hx; omega)
    · rename_i x hx
      have hlt := (List.getElem?_eq_some_iff.1 hx).1
      have hx' : xs[(i : Int).toNat]? = some x := by simpa using hx
      split
      · rename_i h0
        subst h0
        exact .out (c17_zero xs out i (by omega) (by omega) hx') (by simp)
      · rename_i h0
        split
        · rename_i h1
          subst h1
          exact .step (c17_one xs out i (by omega) (by omega) hl hx') (by simpa using loop17 xs hb hl f (i + 1) out (by omega) (by omega) (by omega))
        · rename_i h1
          split
          · rename_i hn
            have := List.getElem?_eq_none_iff.1 hn
            exact .out (c17_bad1 xs out i x (by omega) (by omega) hl hx' h0 h1 (by omega)) (by simp)
          · rename_i n hn
            have hlt' := (List.getElem?_eq_some_iff.1 hn).1
            have hn' : xs[((i : Int) + 1).toNat]? = some n := by
              have : ((i : Int) + 1).toNat = i + 1 := by omega
              rw [this]; exact hn
            have hnb := hb n (List.mem_of_getElem? hn)
            split
            · rename_i hbad
              by_cases h2 : n < 2
              · exact .out (c17_bad2 xs out i x n (by omega) (by omega) hl hx' h0 h1 (by omega) hn' h2) (by simp)
              · exact .out (c17_bad3 xs out i x n (by omega) (by omega) hl hx' h0 h1 (by omega) hn' (by omega) (by omega) (by omega)) (by simp)
            · rename_i hok
              have hin : (((i + n.toNat : Nat)) : Int) = i + n := by omega
              have key : ∀ out', out'.length ≤ i + n.toNat → LoopOK prog (B17 prog) (S17 xs out' ((i : Int) + n)) (.exit 0) (T17 xs (cop xs f (i + n.toNat) out')) := by
                intro out' ho'
                have := loop17 xs hb hl f (i + n.toNat) out' (by omega) (by omega) ho'
                rwa [hin] at this
              split
              · rename_i h128
                have hcut : (xs.take ((i : Int) + n).toNat).drop (i : Int).toNat = (xs.take (i + n.toNat)).drop i := by
                  have : ((i : Int) + n).toNat = i + n.toNat := by omega
                  rw [this]; simp
                have hlen := len_dt xs (i + n.toNat) i
                have := c17_high xs out i x n (by omega) (by omega) hl (by omega) hx' h0 h1 (by omega) hn' (by omega) (by omega) h128
                rw [hcut] at this
                exact .step this (key _ (by rw [List.length_append]; omega))
              · exact .step (c17_low xs out i x n (by omega) (by omega) hl hx' h0 h1 (by omega) hn' (by omega) (by omega) (by omega)) (key _ (by omega))

theorem c17b_end (xs out : List Int) (h : out.length % 4 = 0) : CodeOK prog (B17b prog) (T17 xs out) (Exit.exit 2) (T17 xs out) := by
  have h_run : exMask (evCode prog [⟨11, 3, .n, ff⟩] [] (B17b prog) (T17 xs out)) [0, 2, 3] 1 = .yes (Exit.exit 2) ⟨slots 80 [(0, DV.pd (PD.ds 1 (bl xs))), (2, DV.pd PD.nils), (3, DV.sl 0 out.length)], [Ob.row 5 1 (bl out)], []⟩ [(0 : Int) ≤ (↑out.length : Int) ∧ (4 : Int) ≠ (0 : Int), True, DV.pd (PD.bool ((↑out.length : Int) % (4 : Int) != (0 : Int))) = DV.pd (PD.bool false)] := by kernel_rfl
  refine (code_mask [0, 2, 3] 1 h_run ?_).to ?_
  · clear h_run
    exact ⟨by omega, trivial, dnF (by omega), trivial⟩
  · clear h_run
    rfl

theorem c17b_more (xs out : List Int) (h : ¬ out.length % 4 = 0) (hl : out.length ≤ 1000010) : CodeOK prog (B17b prog) (T17 xs out) (Exit.normal) (T17 xs (out ++ [0])) := by
  have h_run : exMask (evCode prog [⟨11, 3, .n, tt⟩] [] (B17b prog) (T17 xs out)) [0, 2, 3] 1 = .yes (Exit.normal) ⟨slots 80 [(0, DV.pd (PD.ds 1 (bl xs))), (2, DV.pd PD.nils), (3, DV.sl 0 (bl out ++ [[PD.int IntKind.u8 (0 : Int)]]).length)], [Ob.row 5 1 (bl out ++ [[PD.int IntKind.u8 (0 : Int)]])], []⟩ [(0 : Int) ≤ (↑out.length : Int) ∧ (4 : Int) ≠ (0 : Int), True, DV.pd (PD.bool ((↑out.length : Int) % (4 : Int) != (0 : Int))) = DV.pd (PD.bool true), out.length = (bl out).length ∧ ((bl out).length + 1) * 1 ≤ 140737488355328 ∧ (bl out).length + 1 ≤ 9223372036854775807] := by kernel_rfl
  refine (code_mask [0, 2, 3] 1 h_run ?_).to ?_
  · clear h_run
    have e0 := bl_length out
    exact ⟨by omega, trivial, dnT (by omega), by omega, trivial⟩
  · clear h_run
    rw [bl_one, bl_append, bl_length]

theorem loop17b (xs : List Int) : ∀ (f : Nat) (out : List Int), (4 - out.length % 4) % 4 ≤ f → out.length ≤ 1000004 → LoopOK prog (B17b prog) (T17 xs out) (.exit 2) (T17 xs (padN f out))
  | 0, out, hf, _ => .out (c17b_end xs out (by omega)) (by simp)
  | f + 1, out, hf, hl => by
    unfold padN
    split
    · rename_i h
      exact .out (c17b_end xs out h) (by simp)
    · rename_i h
      exact .step (c17b_more xs out h (by omega)) (by
        by_cases h4 : (out ++ [(0 : Int)]).length ≤ 1000004
        · exact loop17b xs f (out ++ [0]) (by rw [List.length_append, List.length_singleton]; omega) h4
        · exfalso
          rw [List.length_append, List.length_singleton] at h4
          omega)
theorem f17_ok (xs : List Int) (hb : ∀ x ∈ xs, 0 ≤ x ∧ x ≤ 255) (hl : xs.length ≤ 1000000) : CallP prog 17 [nb xs] (nb (copied xs)) := by
  have h_run : runF prog [⟨1, 0, .n, .row 5 1⟩] [⟨0, 3, .loop (B17 prog), [0, 2, 3, 4], 1, S17 xs [] 0, .exit 0, T17 xs (cop xs xs.length 0 [])⟩, ⟨0, 11, .loop (B17b prog), [0, 2, 3], 1, T17 xs (cop xs xs.length 0 []), .exit 2, T17 xs (copied xs)⟩] 17 [nb xs] = some (PD.ds 1 (List.take (copied xs).length (bl (copied xs))), [{ tmps := slots 80 [(0, DV.pd (PD.ds 1 (bl xs))), (2, DV.pd PD.nils), (3, DV.sl 0 0), (4, DV.pd (PD.int IntKind.i64 (0 : Int)))], heap := [Ob.row 5 1 []], pins := [] } = S17 xs [] (0 : Int), CodeOK prog (B17 prog).loop (S17 xs [] (0 : Int)) (Exit.exit 0) (T17 xs (cop xs xs.length 0 [])), { tmps := slots 80 [(0, DV.pd (PD.ds 1 (bl xs))), (2, DV.pd PD.nils), (3, DV.sl 0 (cop xs xs.length 0 []).length)], heap := [Ob.row 5 1 (bl (cop xs xs.length 0 []))], pins := [] } = T17 xs (cop xs xs.length 0 []), CodeOK prog (B17b prog).loop (T17 xs (cop xs xs.length 0 [])) (Exit.exit 2) (T17 xs (copied xs))]) := by kernel_rfl
  refine runF_to h_run ?_ ?_
  · clear h_run
    exact ⟨rfl, (loop17 xs hb hl xs.length 0 [] (by omega) (by omega) (by simp)).code, rfl, (loop17b xs 3 _ (by omega) (by have := cop_len xs xs.length 0 [] (by omega) (by simp); omega)).code, trivial⟩
  · clear h_run
    rw [bl_full]

end Go.FI
