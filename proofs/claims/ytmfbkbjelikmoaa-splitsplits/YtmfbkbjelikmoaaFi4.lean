import Derived.Test.YtmfbkbjelikmoaaFi3
namespace Go.FI
open Go.RowKit

theorem add_at (b o n : Nat) : (⟨b, o, none⟩ : Addr).add n = ⟨b, o + n, none⟩ := by
  unfold Addr.add
  split
  · rename_i h; simp [h]
  · rfl

def aggD : TypeDesc → Bool
  | .struct _ | .array _ _ => true
  | _ => false

section
variable {P : Program} (w : World)
theorem run_isAgg {t : TypeId} {d : TypeDesc} (h : P.underlying t = some d) : (isAgg t).run P w = .ok (aggD d) w := by
  unfold isAgg
  rw [Sem.run_bind, run_underlying h w]
  cases d <;> rfl
theorem run_sizeOf {t : TypeId} {i : TypeInfo} (h : P.info? t = some i) : (sizeOf t).run P w = .ok i.size w := by
  simp [sizeOf, typeInfo, h]
theorem run_fieldAt {s : TypeId} {fs : Array Field} {f : Nat} {fd : Field} {i : TypeInfo} (hs : P.underlying s = some (.struct fs)) (hf : fs[f]? = some fd) (hi : P.info? fd.type = some i) (h0 : i.size ≠ 0) (b o : Nat) :
    (Instr.fieldAt s (.pointer (some ⟨b, o, none⟩)) f).run P w = .ok (.pointer (some ⟨b, o + fd.offset, none⟩)) w := by
  simp [Instr.fieldAt, run_underlying hs, hf, Instr.sureAddr, fieldPlace, run_sizeOf w hi, h0, add_at]
theorem run_loadAgg {t : TypeId} {d : TypeDesc} {i : TypeInfo} (hd : P.underlying t = some d) (ha : aggD d = true) (hi : P.info? t = some i) (b o : Nat) (vs : List Value) (hl : vs.length = i.size)
    (hc : ∀ j v, vs[j]? = some v → w.cell? ⟨b, o + j, none⟩ = some v) : (loadVar t ⟨b, o, none⟩).run P w = .ok (.agg vs.toArray) w := by
  have hr := run_loadCells_list (P := P) w ⟨b, o, none⟩ vs (fun j v hj => by rw [add_at]; exact hc j v hj)
  rw [hl] at hr
  simp [loadVar, run_isAgg w hd, ha, run_sizeOf w hi, hr]
theorem run_loadOne {t : TypeId} {d : TypeDesc} (hd : P.underlying t = some d) (ha : aggD d = false) {a : Addr} {v : Value} (hc : w.cell? a = some v) : (loadVar t a).run P w = .ok v w := by
  simp [loadVar, run_isAgg w hd, ha, hc]
/-- What a store of cells into a block of the call's own leaves. -/
def cut (C : List Value) (o : Nat) (vs : List Value) : List Value := C.take o ++ vs ++ C.drop (o + vs.length)
theorem run_storeVarAt {t : TypeId} {i : TypeInfo} (hi : P.info? t = some i) (b o : Nat) (C : Array Value) (e : TypeId) (hb : w.heap[b]? = some (.cells C e (0, 0))) (v : Value) (hv : v.cells.size = i.size)
    (ho : o + v.cells.size ≤ C.size) (h1 : ∀ u ∈ v.cells.toList, u.oneCell' = true) :
    (storeVar t ⟨b, o, none⟩ v).run P w = .ok () (w.setRow b (cut C.toList o v.cells.toList).toArray) := by
  have hst := run_storeCells_at P b o e v.cells.toList 0 C w hb (by simpa using ho) h1
  simp only [Nat.add_zero] at hst
  simp [storeVar, run_sizeOf w hi, hv, hst, cut]
end
end Go.FI
