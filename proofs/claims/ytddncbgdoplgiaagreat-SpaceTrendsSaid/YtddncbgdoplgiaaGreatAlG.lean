import Derived.Test.YtddncbgdoplgiaaGreatAlF
namespace Go.AL
open Go.RowKit

/-! ### Zero values -/
def zeroV (P : Program) : Nat → TypeId → V
  | 0, _ => .dead
  | d + 1, t =>
    match P.underlying t with
    | some .bool => .bool false
    | some (.int k) => .int k 0
    | some (.float k) => .flt k 0
    | some .string => .str []
    | some (.pointer _) => .nilp
    | some (.slice _) => .own 0 0 []
    | some (.map _ _) => .nilm
    | some (.func _ _ _) => .nilf
    | some (.interface _) => .nili
    | some (.struct fs) => .agg (fs.toList.map fun f => zeroV P d f.type)
    | some (.array n e) => .arr n (P.cellsOf e) (List.replicate n (zeroV P d e))
    | _ => .dead

def zeroCell : V → Value → Bool
  | .bool false, .bool false => true
  | .int k n, .int k' m => decide (k = k') && (n == 0) && (m == 0)
  | .flt k n, .float k' m => decide (k = k') && (n == 0) && (m == 0)
  | .str [], .string s => s.data.toList.isEmpty
  | .nilp, .pointer none => true
  | .own 0 0 [], .slice none 0 0 => true
  | .nilm, .map none => true
  | .nilf, .nilFunc => true
  | .nili, .nilIface => true
  | _, _ => false
def zeroCells : List V → List Value → Bool
  | [], [] => true
  | v :: vs, c :: cs => zeroCell v c && zeroCells vs cs
  | _, _ => false
mutual
def V.wfB : V → Bool
  | .agg fs => V.wfsB fs
  | .arr n k xs => xs.length == n && V.wfsB xs && xs.all fun x => x.size == k
  | _ => true
def V.wfsB : List V → Bool
  | [] => true
  | v :: vs => v.wfB && V.wfsB vs
end
mutual
theorem wfB_wf : ∀ (v : V), v.wfB = true → v.wf
  | .agg fs, h => by simp only [V.wfB, V.wf] at *; exact wfsB_wfs fs h
  | .arr n k xs, h => by
    simp only [V.wfB, V.wf, Bool.and_eq_true, beq_iff_eq, List.all_eq_true] at *
    exact ⟨h.1.1, wfsB_wfs xs h.1.2, h.2⟩
  | .bool _, _ | .int _ _, _ | .flt _ _, _ | .str _, _ | .nilp, _ | .nilf, _ | .nili, _ | .nilm, _ | .list _, _ | .own _ _ _, _
  | .ptr _ _ _, _ | .bsl _ _ _ _ _, _ | .elem _, _ | .fn _ _, _ | .mp _, _ | .tup _, _ | .dead, _ => by simp [V.wf]
theorem wfsB_wfs : ∀ (vs : List V), V.wfsB vs = true → V.wfs vs
  | [], _ => by simp [V.wfs]
  | v :: vs, h => by
    simp only [V.wfsB, Bool.and_eq_true] at h
    exact ⟨wfB_wf v h.1, wfsB_wfs vs h.2⟩
end

def isAggV : Value → Bool
  | .agg _ => true
  | _ => false

def zeroB (P : Program) (t : TypeId) (v : V) : Bool :=
  v.wfB && decide (tyS P t = some (v.isAgg, v.size)) && v.ahead 0 &&
  match (P.info? t).bind (·.zero) with
  | some z => zeroCells v.flat z.cells.toList && isAggV z == v.isAgg
  | none => false

def zeroOf (P : Program) (t : TypeId) : Option V := if zeroB P t (zeroV P 20 t) then some (zeroV P 20 t) else none

section
variable {P : Program} {ρ : List Nat} {K : Nat → Nat} {w : World}

theorem zeroCell_CR {v : V} {c : Value} (h : zeroCell v c = true) : CR ρ K w v c [] := by
  unfold zeroCell at h
  split at h <;> first | cases h; done | skip
  · exact .bool _
  · simp only [Bool.and_eq_true, decide_eq_true_eq, beq_iff_eq] at h
    obtain ⟨⟨rfl, rfl⟩, rfl⟩ := h; exact .int _ _
  · simp only [Bool.and_eq_true, decide_eq_true_eq, beq_iff_eq] at h
    obtain ⟨⟨rfl, rfl⟩, rfl⟩ := h; exact .flt _ _ (by decide)
  · rename_i s
    have : s = ⟨([] : List UInt8).toArray⟩ := by
      apply ByteArray.ext
      have := List.isEmpty_iff.1 h
      simpa using this
    rw [this]; exact .str []
  · exact .nilp
  · exact .own0 _ _
  · exact .nilm
  · exact .nilf
  · exact .nili

theorem zeroCells_CRs : ∀ {vs : List V} {cs : List Value}, zeroCells vs cs = true → CRs ρ K w vs cs []
  | [], [], _ => rfl
  | v :: vs, c :: cs, h => by
    simp only [zeroCells, Bool.and_eq_true] at h
    exact ⟨[], [], rfl, zeroCell_CR h.1, zeroCells_CRs h.2⟩
  | [], _ :: _, h => by simp [zeroCells] at h
  | _ :: _, [], h => by simp [zeroCells] at h

theorem zeroOf_spec {t : TypeId} {v : V} (h : zeroOf P t = some v) : v.wf ∧ tyS P t = some (v.isAgg, v.size) ∧ v.ahead 0 = true ∧
    ∃ z, (zeroValue t).run P w = .ok z w ∧ CRs ρ K w v.flat z.cells.toList [] ∧ VR0 ρ K w v z [] := by
  unfold zeroOf at h
  split at h
  · rename_i hb
    injection h with h; subst h
    generalize zeroV P 20 t = v at *
    simp only [zeroB, Bool.and_eq_true, decide_eq_true_eq] at hb
    obtain ⟨⟨⟨h1, h2⟩, h3⟩, h4⟩ := hb
    refine ⟨wfB_wf v h1, h2, h3, ?_⟩
    split at h4
    · rename_i z hz
      simp only [Bool.and_eq_true, beq_iff_eq] at h4
      have hc := zeroCells_CRs (ρ := ρ) (K := K) (w := w) h4.1
      refine ⟨z, ?_, hc, wfB_wf v h1, _, hc, ?_⟩
      · cases hi : P.info? t with
        | none => simp [hi] at hz
        | some i =>
          simp only [hi, Option.bind_some] at hz
          simp [zeroValue, typeInfo, hi, hz]
      · cases z <;> simp [isAggV] at h4 <;> simp [V.mk, ← h4.2, Value.cells]
    · cases h4
  · cases h

end
end Go.AL
