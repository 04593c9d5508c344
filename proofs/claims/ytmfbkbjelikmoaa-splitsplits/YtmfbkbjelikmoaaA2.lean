import Derived.Test.YtmfbkbjelikmoaaA1
namespace Go.FI
open Go.Proofs.Try

/-- A row filled up to words of four. -/
def padN : Nat → List Int → List Int
  | 0, out => out
  | f + 1, out => if out.length % 4 = 0 then out else padN f (out ++ [0])
abbrev B23b (P : Program) : Code := loopBody (fcode P 23 0 15)

theorem c23b_end (xs out : List Int) (h : out.length % 4 = 0) : CodeOK prog (B23b prog) (T23 xs out) (Exit.exit 3) (T23 xs out) := by
  have h_run : exMask (evCode prog [⟨15, 3, .n, ff⟩] [] (B23b prog) (T23 xs out)) [0, 2, 3] 1 = .yes (Exit.exit 3) ⟨slots 78 [(0, DV.pd (PD.ds 1 (bl xs))), (2, DV.pd PD.nils), (3, DV.sl 0 out.length)], [Ob.row 5 1 (bl out)], []⟩ [(0 : Int) ≤ (↑out.length : Int) ∧ (4 : Int) ≠ (0 : Int), True, DV.pd (PD.bool ((↑out.length : Int) % (4 : Int) != (0 : Int))) = DV.pd (PD.bool false)] := by kernel_rfl
  refine (code_mask [0, 2, 3] 1 h_run ?_).to ?_
  · clear h_run
    exact ⟨by omega, trivial, dnF (by omega), trivial⟩
  · clear h_run
    rfl


theorem c23b_more (xs out : List Int) (h : ¬ out.length % 4 = 0) (hl : out.length ≤ 1000010) : CodeOK prog (B23b prog) (T23 xs out) (Exit.normal) (T23 xs (out ++ [0])) := by
  have h_run : exMask (evCode prog [⟨15, 3, .n, tt⟩, ⟨16, 2, .n, .n⟩] [] (B23b prog) (T23 xs out)) [0, 2, 3] 1 = .yes (Exit.normal) ⟨slots 78 [(0, DV.pd (PD.ds 1 (bl xs))), (2, DV.pd PD.nils), (3, DV.sl 0 (bl out ++ [[PD.int IntKind.u8 (0 : Int)]]).length)], [Ob.row 5 1 (bl out ++ [[PD.int IntKind.u8 (0 : Int)]])], []⟩ [(0 : Int) ≤ (↑out.length : Int) ∧ (4 : Int) ≠ (0 : Int), True, DV.pd (PD.bool ((↑out.length : Int) % (4 : Int) != (0 : Int))) = DV.pd (PD.bool true), out.length = (bl out).length ∧ ((bl out).length + 1) * 1 ≤ 140737488355328 ∧ (bl out).length + 1 ≤ 9223372036854775807] := by kernel_rfl
  refine (code_mask [0, 2, 3] 1 h_run ?_).to ?_
  · clear h_run
    have e0 := bl_length out
    exact ⟨by omega, trivial, dnT (by omega), by omega, trivial⟩
  · clear h_run
    rw [bl_one, bl_append, bl_length]


theorem loop23b (xs : List Int) : ∀ (f : Nat) (out : List Int), (4 - out.length % 4) % 4 ≤ f → out.length ≤ 1000004 → LoopOK prog (B23b prog) (T23 xs out) (.exit 3) (T23 xs (padN f out))
  | 0, out, hf, _ => .out (c23b_end xs out (by omega)) (by simp)
  | f + 1, out, hf, hl => by
    unfold padN
    split
    · rename_i h
      exact .out (c23b_end xs out h) (by simp)
    · rename_i h
      exact .step (c23b_more xs out h (by omega)) (by
        by_cases h4 : (out ++ [(0 : Int)]).length ≤ 1000004
        · exact loop23b xs f (out ++ [0]) (by rw [List.length_append, List.length_singleton]; omega) h4
        · exfalso
          rw [List.length_append, List.length_singleton] at h4
          omega)
theorem cop_len (xs : List Int) : ∀ (f i : Nat) (out : List Int), i ≤ xs.length → out.length ≤ i → (cop xs f i out).length ≤ xs.length
  | 0, i, out, hi, ho => by unfold cop; omega
  | f + 1, i, out, hi, ho => by
    unfold cop
    split
    · omega
    · rename_i x hx
      have hlt := (List.getElem?_eq_some_iff.1 hx).1
      split
      · omega
      · split
        · exact cop_len xs f (i + 1) out (by omega) (by omega)
        · split
          · omega
          · rename_i n hn
            split
            · omega
            · have hlen := len_dt xs (i + n.toNat) i
              refine cop_len xs f (i + n.toNat) _ (by omega) ?_
              split
              · rw [List.length_append]; omega
              · omega
def copied (xs : List Int) : List Int := padN 3 (cop xs xs.length 0 [])
theorem bl_full (xs : List Int) : (bl xs).take xs.length = bl xs := by rw [← bl_length xs, List.take_length]

theorem f23_ok (xs : List Int) (hb : ∀ x ∈ xs, 0 ≤ x ∧ x ≤ 255) (hl : xs.length ≤ 1000000) : CallP prog 23 [nb xs] (nb (copied xs)) := by
  have h_run : runF prog [⟨1, 0, .n, .row 5 1⟩] [⟨0, 3, .loop (B23 prog), [0, 2, 3, 4], 1, S23 xs [] 0, .exit 0, T23 xs (cop xs xs.length 0 [])⟩, ⟨0, 15, .loop (B23b prog), [0, 2, 3], 1, T23 xs (cop xs xs.length 0 []), .exit 3, T23 xs (copied xs)⟩] 23 [nb xs] = some (PD.ds 1 (List.take (copied xs).length (bl (copied xs))), [{ tmps := slots 78 [(0, DV.pd (PD.ds 1 (bl xs))), (2, DV.pd PD.nils), (3, DV.sl 0 0), (4, DV.pd (PD.int IntKind.i64 (0 : Int)))], heap := [Ob.row 5 1 []], pins := [] } = S23 xs [] (0 : Int), CodeOK prog (B23 prog).loop (S23 xs [] (0 : Int)) (Exit.exit 0) (T23 xs (cop xs xs.length 0 [])), { tmps := slots 78 [(0, DV.pd (PD.ds 1 (bl xs))), (2, DV.pd PD.nils), (3, DV.sl 0 (cop xs xs.length 0 []).length)], heap := [Ob.row 5 1 (bl (cop xs xs.length 0 []))], pins := [] } = T23 xs (cop xs xs.length 0 []), CodeOK prog (B23b prog).loop (T23 xs (cop xs xs.length 0 [])) (Exit.exit 3) (T23 xs (copied xs))]) := by kernel_rfl
  refine runF_to h_run ?_ ?_
  · clear h_run
    exact ⟨rfl, (loop23 xs hb hl xs.length 0 [] (by omega) (by omega) (by simp)).code, rfl, (loop23b xs 3 _ (by omega) (by have := cop_len xs xs.length 0 [] (by omega) (by simp); omega)).code, trivial⟩
  · clear h_run
    rw [bl_full]

end Go.FI
