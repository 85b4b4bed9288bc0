import Derived.Test.YtddncbgdoplgiaaGreatAlC
namespace Go.AL
open Go.RowKit

/-! ### Pure operations on values -/
def evInt (op : BinOp) (k : IntKind) (a b : Int) : Option V :=
  match op with
  | .add => some (.int k (k.wrap (a + b)))
  | .sub => some (.int k (k.wrap (a - b)))
  | .mul => some (.int k (k.wrap (a * b)))
  | .quo => if b = 0 then none else some (.int k (k.wrap (a.tdiv b)))
  | .rem => if b = 0 then none else some (.int k (a.tmod b))
  | .and => some (.int k (k.wrap (BitVec.ofInt k.bits a &&& BitVec.ofInt k.bits b).toNat))
  | .or => some (.int k (k.wrap (BitVec.ofInt k.bits a ||| BitVec.ofInt k.bits b).toNat))
  | .xor => some (.int k (k.wrap (BitVec.ofInt k.bits a ^^^ BitVec.ofInt k.bits b).toNat))
  | .andNot => some (.int k (k.wrap (BitVec.ofInt k.bits a &&& ~~~BitVec.ofInt k.bits b).toNat))
  | .eql => some (.bool (decide (a = b)))
  | .neq => some (.bool (decide (a ≠ b)))
  | .lss => some (.bool (decide (a < b)))
  | .leq => some (.bool (decide (a ≤ b)))
  | .gtr => some (.bool (decide (b < a)))
  | .geq => some (.bool (decide (b ≤ a)))
  | .shl => if 0 ≤ b then some (.int k (k.wrap (a * 2 ^ (min b.toNat k.bits)))) else none
  | .shr => if 0 ≤ b then some (.int k (a.fdiv (2 ^ (min b.toNat k.bits)))) else none

def evStr (op : BinOp) (a b : List UInt8) : Option V :=
  match op with
  | .add => if a.length + b.length ≤ 9223372036854775807 then some (.str (a ++ b)) else none
  | .eql => some (.bool (decide (a = b)))
  | .neq => some (.bool (decide (a ≠ b)))
  | .lss => some (.bool (Op.bytesLess a b))
  | .leq => some (.bool (Op.bytesLess a b || decide (a = b)))
  | .gtr => some (.bool (!(Op.bytesLess a b || decide (a = b))))
  | .geq => some (.bool (!Op.bytesLess a b))
  | _ => none

/-- comparing with nil, and bools -/
def isNilV : V → Option Bool
  | .nilp => some true
  | .ptr _ _ _ | .elem _ => some false
  | _ => none

def evBin (P : Program) (op : BinOp) (t : TypeId) (x y : V) : Option V :=
  match x, y with
  | .int k a, .int k' b => if k = k' ∨ op = .shl ∨ op = .shr then evInt op k a b else none
  | .str a, .str b => evStr op a b
  | .bool a, .bool b =>
    match P.underlying t, op with
    | some .bool, .eql => some (.bool (a == b))
    | some .bool, .neq => some (.bool (a != b))
    | _, _ => none
  | .nilp, y =>
    match P.underlying t, op, isNilV y with
    | some (.pointer _), .eql, some b => some (.bool b)
    | some (.pointer _), .neq, some b => some (.bool (!b))
    | _, _, _ => none
  | x, .nilp =>
    match P.underlying t, op, isNilV x with
    | some (.pointer _), .eql, some b => some (.bool b)
    | some (.pointer _), .neq, some b => some (.bool (!b))
    | _, _, _ => none
  | _, _ => none

section
variable {P : Program} {ρ : List Nat} {K : Nat → Nat} {w : World}

theorem VR_mkInt (k : IntKind) (n : Int) : VR ρ K w (.int k n) (.int k n) [] := VR.of_cell (.int k n)
theorem VR_mkBool (b : Bool) : VR ρ K w (.bool b) (.bool b) [] := VR.of_cell (.bool b)
theorem VR_mkStr (s : List UInt8) : VR ρ K w (.str s) (.string ⟨s.toArray⟩) [] := VR.of_cell (.str s)

theorem evInt_run {op : BinOp} {t : TypeId} {k k' : IntKind} {a b : Int} {v : V} (hk : k = k' ∨ op = .shl ∨ op = .shr) (h : evInt op k a b = some v) :
    ∃ x, (binOp op t (.int k a) (.int k' b)).run P w = .ok x w ∧ VR ρ K w v x [] := by
  cases op <;> simp only [evInt] at h
  case quo =>
    split at h
    · cases h
    injection h with h; subst h
    obtain rfl : k = k' := by simpa using hk
    exact ⟨_, by simp [binOp, Op.intDiv, *], VR_mkInt _ _⟩
  case rem =>
    split at h
    · cases h
    injection h with h; subst h
    obtain rfl : k = k' := by simpa using hk
    exact ⟨_, by simp [binOp, Op.intDiv, *], VR_mkInt _ _⟩
  case shl =>
    split at h
    · injection h with h; subst h
      have : ¬ b < 0 := by omega
      exact ⟨_, by simp [binOp, Op.shift, this], VR_mkInt _ _⟩
    · cases h
  case shr =>
    split at h
    · injection h with h; subst h
      have : ¬ b < 0 := by omega
      exact ⟨_, by simp [binOp, Op.shift, this], VR_mkInt _ _⟩
    · cases h
  case eql => injection h with h; subst h; obtain rfl : k = k' := by simpa using hk
              exact ⟨.bool (decide (a = b)), by by_cases h : a = b <;> simp [binOp, Op.intCmp, h], VR_mkBool _⟩
  case neq => injection h with h; subst h; obtain rfl : k = k' := by simpa using hk
              exact ⟨.bool (decide (a ≠ b)), by by_cases h : a = b <;> simp [binOp, Op.intCmp, h], VR_mkBool _⟩
  case add | sub | mul =>
    injection h with h; subst h
    obtain rfl : k = k' := by simpa using hk
    exact ⟨_, by simp only [binOp, ne_eq, not_true_eq_false, if_false, Op.intArith, Sem.run_pure], VR_mkInt _ _⟩
  case and | or | xor | andNot =>
    injection h with h; subst h
    obtain rfl : k = k' := by simpa using hk
    exact ⟨_, by simp only [binOp, ne_eq, not_true_eq_false, if_false, Op.intBits, Sem.run_pure], VR_mkInt _ _⟩
  case lss | leq | gtr | geq =>
    injection h with h; subst h
    obtain rfl : k = k' := by simpa using hk
    exact ⟨_, by simp only [binOp, ne_eq, not_true_eq_false, if_false, Op.intCmp, Sem.run_pure], VR_mkBool _⟩

theorem toList_mk (l : List UInt8) : (ByteArray.mk l.toArray).toList = l := ByteArray.toList_mk l

theorem evStr_run {op : BinOp} {t : TypeId} {a b : List UInt8} {v : V} (h : evStr op a b = some v) :
    ∃ x, (binOp op t (.string ⟨a.toArray⟩) (.string ⟨b.toArray⟩)).run P w = .ok x w ∧ VR ρ K w v x [] := by
  cases op <;> simp only [evStr] at h
  case add =>
    split at h
    · injection h with h; subst h
      refine ⟨_, ?_, VR_mkStr _⟩
      simp only [binOp]
      rw [run_string_add_sum, ByteArray.mk_append_mk]
      simp [ByteArray.size]; omega
    · cases h
  case eql => injection h with h; subst h; exact ⟨.bool (decide (a = b)), by by_cases h : a = b <;> simp [binOp, Op.stringOp, h], VR_mkBool _⟩
  case neq => injection h with h; subst h; exact ⟨.bool (decide (a ≠ b)), by by_cases h : a = b <;> simp [binOp, Op.stringOp, h], VR_mkBool _⟩
  case lss => injection h with h; subst h; exact ⟨_, by simp [binOp, Op.stringOp], VR_mkBool _⟩
  case geq => injection h with h; subst h; exact ⟨_, by simp [binOp, Op.stringOp], VR_mkBool _⟩
  case leq => injection h with h; subst h; exact ⟨.bool (Op.bytesLess a b || decide (a = b)), by by_cases h : a = b <;> simp [binOp, Op.stringOp, h], VR_mkBool _⟩
  case gtr => injection h with h; subst h; exact ⟨.bool (!(Op.bytesLess a b || decide (a = b))), by by_cases h : a = b <;> simp [binOp, Op.stringOp, h], VR_mkBool _⟩
  all_goals cases h

theorem isNilV_spec {v : V} {b : Bool} {x : Value} {r : List Nat} (h : isNilV v = some b) (hv : VR ρ K w v x r) : ∃ a : Option Addr, x = .pointer a ∧ b = a.isNone := by
  cases v <;> simp [isNilV] at h <;> subst h
  · obtain ⟨rfl, _⟩ := VR_nilp hv; exact ⟨_, rfl, rfl⟩
  · obtain ⟨b, _, rfl, _⟩ := VR_ptr hv; exact ⟨_, rfl, rfl⟩
  · obtain ⟨b, off, vs, rfl, _⟩ := VR_elem hv; exact ⟨_, rfl, rfl⟩

theorem eqIn_nil_ptr {t e : TypeId} (d : Nat) (ht : P.underlying t = some (.pointer e)) (a : Option Addr) : (Op.equalIn (d + 1) t (.pointer none) (.pointer a)).run P w = .ok a.isNone w := by
  simp [Op.equalIn, run_underlying ht]
theorem eqIn_ptr_nil {t e : TypeId} (d : Nat) (ht : P.underlying t = some (.pointer e)) (a : Option Addr) : (Op.equalIn (d + 1) t (.pointer a) (.pointer none)).run P w = .ok a.isNone w := by
  cases a <;> simp [Op.equalIn, run_underlying ht]
theorem eqIn_bool {t : TypeId} (d : Nat) (ht : P.underlying t = some .bool) (a b : Bool) : (Op.equalIn (d + 1) t (.bool a) (.bool b)).run P w = .ok (a == b) w := by
  simp [Op.equalIn, run_underlying ht]
theorem run_equal_of {t : TypeId} {x y : Value} {b : Bool} (h : ∀ d, (Op.equalIn (d + 1) t x y).run P w = .ok b w) : (Op.equal t x y).run P w = .ok b w := h 9999

theorem evBin_run {op : BinOp} {t yt : TypeId} {x y : Operand} {e : Operand → Value} {u v r : V} {rx ry : List Nat} {o : Oper} (ho : o.op = .binOp op t x y yt) (h : evBin P op t u v = some r)
    (hx : VR ρ K w u (e x) rx) (hy : VR ρ K w v (e y) ry) : ∃ z, (execOp e o).run P w = .ok (.value z) w ∧ VR ρ K w r z [] := by
  have key : ∃ z, (eqGuard op t x y (e x) (e y)).run P w = .ok () w ∧ (binOp op t (e x) (e y)).run P w = .ok z w ∧ VR ρ K w r z [] := by
    unfold evBin at h
    split at h
    · obtain ⟨ex, _⟩ := VR_int hx
      obtain ⟨ey, _⟩ := VR_int hy
      split at h
      · rename_i hk
        obtain ⟨z, h1, h2⟩ := evInt_run (P := P) (w := w) (ρ := ρ) (K := K) (t := t) hk h
        exact ⟨z, by rw [ex, ey]; cases op <;> simp [eqGuard], by rw [ex, ey]; exact h1, h2⟩
      · cases h
    · obtain ⟨ex, _⟩ := VR_str hx
      obtain ⟨ey, _⟩ := VR_str hy
      obtain ⟨z, h1, h2⟩ := evStr_run (P := P) (w := w) (ρ := ρ) (K := K) (t := t) h
      exact ⟨z, by rw [ex, ey]; cases op <;> simp [eqGuard], by rw [ex, ey]; exact h1, h2⟩
    · obtain ⟨ex, _⟩ := VR_bool hx
      obtain ⟨ey, _⟩ := VR_bool hy
      rw [ex, ey]
      split at h <;> cases h
      all_goals
        rename_i ht
        have := fun (a b : Bool) => run_equal_of (P := P) (w := w) (t := t) (x := .bool a) (y := .bool b) fun d => eqIn_bool d ht a b
        exact ⟨_, by simp [eqGuard], by simp only [binOp, Sem.run_bind, this, Result.andThen_ok, Sem.run_pure] <;> rfl, VR_mkBool _⟩
    · obtain ⟨ex, _⟩ := VR_nilp hx
      rw [ex]
      split at h <;> cases h
      all_goals
        rename_i ht hn
        obtain ⟨a, ey, rfl⟩ := isNilV_spec hn hy
        rw [ey]
        have := run_equal_of (w := w) fun d => eqIn_nil_ptr d ht a
        exact ⟨_, by simp [eqGuard], by simp only [binOp, Sem.run_bind, this, Result.andThen_ok, Sem.run_pure], VR_mkBool _⟩
    · obtain ⟨ey, _⟩ := VR_nilp hy
      rw [ey]
      split at h <;> cases h
      all_goals
        rename_i ht hn
        obtain ⟨a, ex, rfl⟩ := isNilV_spec hn hx
        rw [ex]
        have := run_equal_of (w := w) fun d => eqIn_ptr_nil d ht a
        exact ⟨_, by simp [eqGuard], by simp only [binOp, Sem.run_bind, this, Result.andThen_ok, Sem.run_pure], VR_mkBool _⟩
    · cases h
  obtain ⟨z, h1, h2, h3⟩ := key
  exact ⟨z, by simp [execOp, ho, h1, h2], h3⟩

end
end Go.AL
