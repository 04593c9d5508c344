/-
  SplitSplits: the fragments of every datagram, by both texts, and whether it fits, and how many they are, are alike; whatever the input: true, and the input reads as it did.
  Conditions: none.
-/
import Derived.Test.YtmfbkbjelikmoaaA16
import Derived.Test.YtmfbkbjelikmoaaFr2
import Derived.Test.YtmfbkbjelikmoaaRows
namespace Go.Proofs.Ytmfbkbjelikmoaa
open Go.FI Go.ChangeShapes Go.WideShapes Go.ChangeAt Go.RowKit

theorem Try.own : ownKnob Try.prog.godebug = none := by kernel_rfl
theorem Try.laidOut : laidOutB Try.prog = true := by kernel_rfl
theorem bytes_of {n : Nat} : ∀ {es : List (List PD)}, (∀ x ∈ es, ctL (ctOK Try.prog n) [.int .u8] x) → ∃ xs : List Int, es = bl xs ∧ Byt xs
  | [], _ => ⟨[], rfl, Byt.nil⟩
  | e :: es, h => by
    obtain ⟨xs, rfl, hb⟩ := bytes_of (es := es) (fun x hx => h x (List.mem_cons_of_mem _ hx))
    have h1 := h e (by simp)
    simp only [ctL, ctOK] at h1
    obtain ⟨p, ps', rfl, ⟨m, rfl, hm⟩, rfl⟩ := h1
    refine ⟨m :: xs, rfl, fun x hx => ?_⟩
    rcases List.mem_cons.1 hx with rfl | hx
    · exact hm
    · exact hb x hx
theorem u8_flat : flatT Try.prog 20 5 = some [.int .u8] := by kernel_rfl
theorem v4_of {ps : List PD} (h : ctL (ctOK Try.prog 4) [.int .u8, .int .u16, .bool, .bool, .int .i64, .int .u8, .int .u8, .int .u8, .int .u8, .int .u8, .int .u8, .int .u8, .int .u8, .int .u8, .int .u8, .sl 5, .sl 5] ps) : ∃ p : V4, ps = p.cells ∧ Byt p.opts := by
  simp only [ctL, ctOK] at h
  obtain ⟨_, _, rfl, ⟨x0, rfl, _⟩, _, _, rfl, ⟨x1, rfl, _⟩, _, _, rfl, ⟨x2, rfl⟩, _, _, rfl, ⟨x3, rfl⟩, _, _, rfl, ⟨x4, rfl, _⟩, _, _, rfl, ⟨x5, rfl, _⟩, _, _, rfl, ⟨x6, rfl, _⟩, _, _, rfl, ⟨x7, rfl, _⟩, _, _, rfl, ⟨x8, rfl, _⟩, _, _, rfl, ⟨x9, rfl, _⟩,
    _, _, rfl, ⟨x10, rfl, _⟩, _, _, rfl, ⟨x11, rfl, _⟩, _, _, rfl, ⟨x12, rfl, _⟩, _, _, rfl, ⟨x13, rfl, _⟩, _, _, rfl, ⟨x14, rfl, _⟩, _, _, rfl, ⟨t1, e1, ht1, rfl, h1⟩, _, _, rfl, ⟨t2, e2, ht2, rfl, h2⟩, rfl⟩ := h
  obtain rfl : t1 = [.int .u8] := Option.some.inj (ht1.symm.trans u8_flat)
  obtain rfl : t2 = [.int .u8] := Option.some.inj (ht2.symm.trans u8_flat)
  obtain ⟨o, rfl, ho⟩ := bytes_of h1
  obtain ⟨b, rfl, hb⟩ := bytes_of h2
  exact ⟨⟨x0, x1, x2, x3, x4, x5, x6, x7, x8, x9, x10, x11, x12, x13, x14, o, b⟩, rfl, ho⟩
theorem splitSplits_at (pss : List (List PD)) (h : typed Try.prog [[.int .u8, .int .u16, .bool, .bool, .int .i64, .int .u8, .int .u8, .int .u8, .int .u8, .int .u8, .int .u8, .int .u8, .int .u8, .int .u8, .int .u8, .sl 5, .sl 5], [.int .i64]] pss) : CallP Try.prog 3 (argsP Try.prog Try.f3.params.toList pss) (.bool true) := by
  simp only [typed] at h
  obtain ⟨p1, _, rfl, h1, p2, _, rfl, h2, rfl⟩ := h
  obtain ⟨v, rfl, hb⟩ := v4_of h1
  simp only [ctL, ctOK] at h2
  obtain ⟨_, _, rfl, ⟨m, rfl, _⟩, rfl⟩ := h2
  have e : argsP Try.prog Try.f3.params.toList [v.cells, [.int .i64 m]] = [v.pd, ni m] := by kernel_rfl
  rw [e]
  exact f3_ok v m hb
set_option maxRecDepth 100000 in
theorem splitSplits_lifted (os : Os) (started : os.Started) (H : Type) (enc : TypeId × Value → H) :
    ReturnsInHanded {} Try.checked os 3 .any (Rows.splitSplitsSpec.pre6 enc Try.prog Try.f3 Rows.splitSplitsRow.domain false) (Rows.splitSplitsSpec.post enc Try.prog Try.f3 false true false false) :=
  law_lifted (C := Try.checked) Try.own started (by kernel_rfl) Try.func3
    (ChangeSpec.witness6 (enc := enc) (C := Try.checked) false ⟨#[], #[.agg #[.int .u8 0, .int .u16 0, .bool false, .bool false, .int .i64 0, .int .u8 0, .int .u8 0, .int .u8 0, .int .u8 0, .int .u8 0, .int .u8 0, .int .u8 0, .int .u8 0, .int .u8 0, .int .u8 0, .slice none 0 0, .slice none 0 0], .int .i64 0], []⟩ 8 (by kernel_rfl) (by kernel_rfl) (by kernel_rfl) (by kernel_rfl))
    Try.laidOut (by intro t ht; exact of_decide_eq_true (List.all_eq_true.1 (show Try.f3.params.toList.all (fun t => decide (Try.prog.readableRec t = true ∧ t < Try.prog.types.size)) = true by kernel_rfl) t ht)) (tb := 4) (by kernel_rfl) (by kernel_rfl) (by kernel_rfl) (by kernel_rfl)
    (fun ds hd => by match ds, hd with | [_, _], _ => rfl) splitSplits_at
theorem splitSplits_holds : Rows.SplitSplitsSaid :=
  OpenClaim.holds_of_wide 3 Try.f3 rfl rfl rfl rfl rfl rfl rfl ⟨rfl, rfl, rfl, rfl, rfl⟩ rfl rfl rfl rfl rfl (by kernel_rfl) Try.func3 (by kernel_rfl)
    (of_decide_eq_true (by kernel_rfl)) (by unfold Func.isWrapper; first | (rw [if_pos (by decide +kernel)]; kernel_rfl) | (rw [if_neg (by decide +kernel)]; exact ⟨rfl, rfl⟩))
    (fun os started H enc _ => splitSplits_lifted os started H enc)
end Go.Proofs.Ytmfbkbjelikmoaa
