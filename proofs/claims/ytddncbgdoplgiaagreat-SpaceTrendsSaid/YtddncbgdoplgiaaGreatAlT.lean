import Derived.Test.YtddncbgdoplgiaaGreatAlS
namespace Go.AL
open Go.RowKit

section
variable {P : Program} {C : Ctx} {S : AS} {a : Act} {w w' : World} {G : Gh} {ρ ρ' : List Nat} {K : Nat → Nat}

/-! ### a region's operations, evaluated -/
/-- a call, and what comes after it -/
def CallK (P : Program) (f : Nat) (args : List V) (st : List Ob) (K : V → List Ob → Prop) : Prop :=
  (isOwn P f = true ∧ ∃ Q, FnA P f args st Q ∧ ∀ v st', Q v st' → K v st') ∨ ∃ v, natV P f args = some v ∧ K v st

mutual
noncomputable def evOps (P : Program) (all : List Oper) (bs : List Nat) : List Oper → AS → (AS → Prop) → Prop
  | [], S, K => K S
  | o :: l, S, K =>
    match wantA all S o with
    | some true => evStep P all bs o l S K
    | some false => (match o.dst with | some d => d < S.n | none => True) ∧ evOps P all bs l (S.skip o.dst) K
    | none => False
  termination_by l => 2 * l.length
  decreasing_by all_goals simp_wf; all_goals omega
noncomputable def evStep (P : Program) (all : List Oper) (bs : List Nat) (o : Oper) (l : List Oper) (S : AS) (K : AS → Prop) : Prop :=
  match o.op with
  | .call c =>
    match c.callee with
    | .value x =>
      match S.ev x with
      | .fn f caps => (match o.dst with | some d => d < S.n | none => True) ∧
          CallK P f ((c.args.toList.map fun x => (S.ev x).view) ++ caps) S.st fun v st' => evOps P all bs l (putO { S with st := st' } o.dst v) K
      | _ => False
    | _ => optK (evOp P bs.contains S o) fun S' => evOps P all bs l S' K
  | _ => optK (evOp P bs.contains S o) fun S' => evOps P all bs l S' K
  termination_by 2 * l.length + 1
  decreasing_by all_goals simp_wf
end

theorem RW_evO {ops : Array Oper} {bs : List Nat} {o : Oper} {l : List Oper} {K : AS → Prop} (hw : wantA ops.toList S o = some true)
    (h : optK (evOp P bs.contains S o) fun S' => RW P C ops l S' K) : RW P C ops (o :: l) S K := by
  unfold optK at h
  split at h
  · rename_i S' he
    exact RW_op hw (evOp_sound he) fun S'' e => e ▸ h
  · exact h.elim

theorem optK_mono {α : Type} {x : Option α} {K K' : α → Prop} (h : optK x K) (hk : ∀ y, K y → K' y) : optK x K' := by
  cases x with
  | none => exact h
  | some y => exact hk y h

theorem RW_evOps {ops : Array Oper} {bs : List Nat} {l : List Oper} {K : AS → Prop} (h : evOps P ops.toList bs l S K) : RW P C ops l S K := by
  induction l generalizing S with
  | nil => rw [evOps] at h; exact RW_nil h
  | cons o l ih =>
    rw [evOps] at h
    split at h
    · rename_i hw
      rw [evStep] at h
      split at h
      · rename_i c ho
        split at h
        · rename_i x hc
          split at h
          · rename_i f caps hx
            obtain ⟨hd, ⟨hown, Q, hf, hk⟩ | ⟨v, hv, hk⟩⟩ := h
            · refine RW_call hw ho hc hx hown (fun d hd' => ?_) hf fun v st' hq => ih (hk v st' hq)
              rw [hd'] at hd; exact hd
            · refine RW_op hw (OpA.native ho hc hx (fun d hd' => ?_) hv) fun S' e => e ▸ ih hk
              rw [hd'] at hd; exact hd
          · exact h.elim
        · exact RW_evO hw (optK_mono h fun S' h => ih h)
      · exact RW_evO hw (optK_mono h fun S' h => ih h)
    · rename_i hw
      refine RW_skip hw (fun d hd => ?_) (ih h.2)
      have := h.1
      rw [hd] at this; exact this
    · exact h.elim

theorem W_regionE {id : Nat} {ops : Array Oper} (bs : List Nat) {Q : Exit → AS → Prop} (h : evOps P ops.toList bs ops.toList S (Q .normal)) : W P C (.region id ops false) S Q :=
  W_region (RW_evOps h)

/-! ### rules with the rest hidden -/
theorem W_seq_k {x y : Code} {Q : Exit → AS → Prop} (h : ∀ K : AS → Prop, (∀ S, W P C y S Q → K S) → W P C x S (thenE K Q)) : W P C (.seq x y) S Q :=
  W_seq (h _ fun _ h => h)

theorem W_region_k {id : Nat} {ops : Array Oper} {y : Code} (bs : List Nat) {Q : Exit → AS → Prop}
    (h : ∀ K : AS → Prop, (∀ S, W P C y S Q → K S) → evOps P ops.toList bs ops.toList S K) : W P C (.seq (.region id ops false) y) S Q :=
  W_seq_k fun K hK => W_regionE bs (h K hK)

/-- what is known of a block's end -/
structure Blk (id : Nat) (Q Q' : Exit → AS → Prop) : Prop where
  nor : ∀ S, Q .normal S → Q' .normal S
  brk : ∀ S, Q .normal S → Q' (.exit id) S
  out : ∀ i S, i ≠ id → Q (.exit i) S → Q' (.exit i) S
  ret : ∀ S, Q .ret S → Q' .ret S

theorem W_block_k {id : Nat} {c : Code} {Q : Exit → AS → Prop} (h : ∀ Q' : Exit → AS → Prop, Blk id Q Q' → W P C c S Q') : W P C (.block id c) S Q :=
  W_block (h _ ⟨fun _ h => h, fun _ h => by simpa [blockE] using h, fun i _ hi h => by simpa [blockE, hi] using h, fun _ h => h⟩)

theorem W_if {c : Operand} {x y : Code} {Q : Exit → AS → Prop} {p : Prop} [Decidable p] (hc : S.ev c = .bool (decide p)) (ht : p → W P C x S Q) (hf : ¬ p → W P C y S Q) : W P C (.cond c x y) S Q :=
  W_ite hc ht hf

theorem W_ifb {c : Operand} {x y : Code} {Q : Exit → AS → Prop} {t : Bool} (hc : S.ev c = .bool t) (ht : t = true → W P C x S Q) (hf : t = false → W P C y S Q) : W P C (.cond c x y) S Q := by
  refine W_cond hc ?_
  cases t
  · exact hf rfl
  · exact ht rfl

/-! ### evaluation, step by step -/
section
variable {all : List Oper} {bs : List Nat} {n : Nat} {s : Nat → V} {st : List Ob} {l : List Oper} {K : AS → Prop} {ty : Nat} {pos : String} {af : Array Edge} {d : Nat}

theorem mk_put (n : Nat) (s : Nat → V) (st : List Ob) (d : Nat) (v : V) : AS.put ⟨n, s, st⟩ d v = ⟨n, upd s d v, st⟩ := rfl
theorem ev_tmp (n : Nat) (s : Nat → V) (st : List Ob) (t : Nat) : AS.ev ⟨n, s, st⟩ (.tmp t) = s t := rfl
theorem ev_const (n : Nat) (s : Nat → V) (st : List Ob) (v : Value) : AS.ev ⟨n, s, st⟩ (.const v) = V.ofVal v := rfl
theorem ev_func (n : Nat) (s : Nat → V) (st : List Ob) (f : Nat) : AS.ev ⟨n, s, st⟩ (.func f) = .fn f [] := rfl
theorem upd_at (s : Nat → V) (j : Nat) (v : V) (i : Nat) : upd s j v i = if i = j then v else s i := rfl
theorem evOps_nil (S : AS) : evOps P all bs [] S K = K S := by rw [evOps]

theorem evOps_free {o : Oper} (hg : o.guard = none) : evOps P all bs (o :: l) S K = evStep P all bs o l S K := by
  rw [evOps]; simp [wantA, hg]

theorem evOps_step (d : Option Nat) (op : Op) : evOps P all bs (⟨d, op, ty, pos, af, none⟩ :: l) S K = evStep P all bs ⟨d, op, ty, pos, af, none⟩ l S K := evOps_free rfl

/-- a slot takes a value -/
def setK (P : Program) (all : List Oper) (bs : List Nat) (d : Nat) (v : Option V) (l : List Oper) (S : AS) (K : AS → Prop) : Prop :=
  d < S.n ∧ optK v fun v => evOps P all bs l (S.put d v) K

theorem optK_putD {v : Option V} {F : AS → Prop} : optK (putD S (some d) v) F = (d < S.n ∧ optK v fun v => F (S.put d v)) := by
  unfold putD
  by_cases h : d < S.n
  · simp only [h, if_true, true_and]; cases v <;> rfl
  · simp only [h, if_false, false_and]; rfl

theorem optK_withD {f : Nat → Option AS} {F : AS → Prop} : optK (withD S (some d) f) F = (d < S.n ∧ optK (f d) F) := by
  unfold withD
  by_cases h : d < S.n
  · simp only [h, if_true, true_and]
  · simp only [h, if_false, false_and]; rfl

theorem evS_move (x : Operand) (hb : bs.contains d = false) : evStep P all bs ⟨some d, .move x, ty, pos, af, none⟩ l ⟨n, s, st⟩ K =
    (d < n ∧ evOps P all bs l ⟨n, upd s d (AS.ev ⟨n, s, st⟩ x).view, st⟩ K) := by
  rw [evStep]; simp only [evOp, optK_withD, hb, Bool.false_eq_true, if_false, evMove]; rfl

theorem evS_give (x : Operand) (hb : bs.contains d = true) : evStep P all bs ⟨some d, .move x, ty, pos, af, none⟩ l ⟨n, s, st⟩ K =
    (d < n ∧ optK (evGive ⟨n, s, st⟩ d x) fun S' => evOps P all bs l S' K) := by
  rw [evStep]; simp only [evOp, optK_withD, hb, if_true]

theorem evS_assign (x : Operand) : evStep P all bs ⟨some d, .assign x, ty, pos, af, none⟩ l ⟨n, s, st⟩ K =
    (d < n ∧ optK (evGive ⟨n, s, st⟩ d x) fun S' => evOps P all bs l S' K) := by
  rw [evStep]; simp only [evOp, optK_withD]

/-- a call, and the operations after it: a wall for simp -/
def CallThen (P : Program) (f : Nat) (args : List V) (all : List Oper) (bs : List Nat) (l : List Oper) (n : Nat) (s : Nat → V) (st : List Ob) (dst : Option Nat) (K : AS → Prop) : Prop :=
  CallK P f args st fun v st' => evOps P all bs l (putO ⟨n, s, st'⟩ dst v) K

theorem evS_call {f : Nat} {args : Array Operand} {tys : Array Nat} {d : Nat} :
    evStep P all bs ⟨some d, .call ⟨.value (.func f), args, tys⟩, ty, pos, af, none⟩ l ⟨n, s, st⟩ K =
      (d < n ∧ CallThen P f (args.toList.map fun x => (AS.ev ⟨n, s, st⟩ x).view) all bs l n s st (some d) K) := by
  rw [evStep]; simp only [ev_func, List.append_nil]; rfl

theorem evS_callN {f : Nat} {args : Array Operand} {tys : Array Nat} :
    evStep P all bs ⟨none, .call ⟨.value (.func f), args, tys⟩, ty, pos, af, none⟩ l ⟨n, s, st⟩ K =
      CallThen P f (args.toList.map fun x => (AS.ev ⟨n, s, st⟩ x).view) all bs l n s st none K := by
  rw [evStep]; simp only [ev_func, List.append_nil]; simp [CallThen]

/-- a closure's call -/
def callV (P : Program) (v : V) (args : List V) (all : List Oper) (bs : List Nat) (l : List Oper) (n : Nat) (s : Nat → V) (st : List Ob) (dst : Option Nat) (K : AS → Prop) : Prop :=
  match v with
  | .fn f caps => CallThen P f (args ++ caps) all bs l n s st dst K
  | _ => False

theorem callV_fn (f : Nat) (caps args : List V) (dst : Option Nat) : callV P (.fn f caps) args all bs l n s st dst K = CallThen P f (args ++ caps) all bs l n s st dst K := rfl

theorem evS_callT {t : Nat} {args : Array Operand} {tys : Array Nat} {d : Nat} :
    evStep P all bs ⟨some d, .call ⟨.value (.tmp t), args, tys⟩, ty, pos, af, none⟩ l ⟨n, s, st⟩ K =
      (d < n ∧ callV P (s t) (args.toList.map fun x => (AS.ev ⟨n, s, st⟩ x).view) all bs l n s st (some d) K) := by
  rw [evStep]
  simp only [ev_tmp]
  cases s t <;> simp [callV, CallThen]

theorem evS_callTN {t : Nat} {args : Array Operand} {tys : Array Nat} :
    evStep P all bs ⟨none, .call ⟨.value (.tmp t), args, tys⟩, ty, pos, af, none⟩ l ⟨n, s, st⟩ K =
      callV P (s t) (args.toList.map fun x => (AS.ev ⟨n, s, st⟩ x).view) all bs l n s st none K := by
  rw [evStep]
  simp only [ev_tmp]
  cases s t <;> simp [callV, CallThen]

theorem evS_pick (c x y : Operand) : evStep P all bs ⟨some d, .pick c x y, ty, pos, af, none⟩ l ⟨n, s, st⟩ K = (d < n ∧ optK (evPick ⟨n, s, st⟩ c x y) fun v => evOps P all bs l ⟨n, upd s d v, st⟩ K) := by
  rw [evStep]; simp only [evOp, optK_putD]; rfl
theorem evS_alloc (e : Nat) : evStep P all bs ⟨some d, .alloc e, ty, pos, af, none⟩ l ⟨n, s, st⟩ K = (d < n ∧ optK (evAlloc P e ⟨n, s, st⟩ d) fun S' => evOps P all bs l S' K) := by
  rw [evStep]; simp only [evOp, optK_withD]
theorem evS_box (e : Nat) (x : Operand) : evStep P all bs ⟨some d, .box e x, ty, pos, af, none⟩ l ⟨n, s, st⟩ K = (d < n ∧ optK (evBox ⟨n, s, st⟩ d x) fun S' => evOps P all bs l S' K) := by
  rw [evStep]; simp only [evOp, optK_withD]
theorem evS_build (t : Nat) (ps : Array (Nat × Operand)) : evStep P all bs ⟨some d, .build t ps, ty, pos, af, none⟩ l ⟨n, s, st⟩ K = (d < n ∧ optK (evBuild P t (AS.ev ⟨n, s, st⟩) ps.toList) fun v => evOps P all bs l ⟨n, upd s d v, st⟩ K) := by
  rw [evStep]; simp only [evOp, optK_putD]; rfl
theorem evS_buildSlice (t len : Nat) (ps : Array (Nat × Operand)) : evStep P all bs ⟨some d, .buildSlice t len ps, ty, pos, af, none⟩ l ⟨n, s, st⟩ K = (d < n ∧ optK (evBuildSlice P t len ⟨n, s, st⟩ d ps.toList) fun S' => evOps P all bs l S' K) := by
  rw [evStep]; simp only [evOp, optK_withD]
theorem evS_load (t : Nat) (x : Operand) (hb : bs.contains d = false) : evStep P all bs ⟨some d, .load t x, ty, pos, af, none⟩ l ⟨n, s, st⟩ K = (d < n ∧ optK (evLoad P t ⟨n, s, st⟩ (AS.ev ⟨n, s, st⟩ x)) fun v => evOps P all bs l ⟨n, upd s d v, st⟩ K) := by
  rw [evStep]; simp only [evOp, isBase, hb, Bool.false_eq_true, if_false, optK_putD]; rfl
theorem evS_take (t : Nat) (x : Operand) (hb : bs.contains d = true) : evStep P all bs ⟨some d, .load t x, ty, pos, af, none⟩ l ⟨n, s, st⟩ K = (d < n ∧ optK (evTake P t ⟨n, s, st⟩ d (AS.ev ⟨n, s, st⟩ x)) fun S' => evOps P all bs l S' K) := by
  rw [evStep]; simp only [evOp, isBase, hb, if_true, optK_withD]
theorem evS_store (t : Nat) (p x : Operand) : evStep P all bs ⟨none, .store t p x, ty, pos, af, none⟩ l ⟨n, s, st⟩ K = optK (evStore P t ⟨n, s, st⟩ p x) fun S' => evOps P all bs l S' K := by
  rw [evStep]; simp only [evOp, if_true]
theorem evS_nilCheck (x : Operand) : evStep P all bs ⟨some d, .nilCheck x, ty, pos, af, none⟩ l ⟨n, s, st⟩ K = (d < n ∧ optK (evNilCheck (AS.ev ⟨n, s, st⟩ x)) fun v => evOps P all bs l ⟨n, upd s d v, st⟩ K) := by
  rw [evStep]; simp only [evOp, optK_putD]; rfl
theorem evS_bin (op : BinOp) (t : Nat) (x y : Operand) (t' : Nat) : evStep P all bs ⟨some d, .binOp op t x y t', ty, pos, af, none⟩ l ⟨n, s, st⟩ K = (d < n ∧ optK (evBn P op t (AS.ev ⟨n, s, st⟩ x) (AS.ev ⟨n, s, st⟩ y)) fun v => evOps P all bs l ⟨n, upd s d v, st⟩ K) := by
  rw [evStep]; simp only [evOp, optK_putD]; rfl
theorem evS_un (op : UnOp) (t : Nat) (x : Operand) : evStep P all bs ⟨some d, .unOp op t x, ty, pos, af, none⟩ l ⟨n, s, st⟩ K = (d < n ∧ optK (evUn op (AS.ev ⟨n, s, st⟩ x)) fun v => evOps P all bs l ⟨n, upd s d v, st⟩ K) := by
  rw [evStep]; simp only [evOp, optK_putD]; rfl
theorem evS_conv (t t' : Nat) (x : Operand) : evStep P all bs ⟨some d, .convert t t' x, ty, pos, af, none⟩ l ⟨n, s, st⟩ K = (d < n ∧ optK (evConvS P ⟨n, s, st⟩ t t' (AS.ev ⟨n, s, st⟩ x)) fun v => evOps P all bs l ⟨n, upd s d v, st⟩ K) := by
  rw [evStep]; simp only [evOp, optK_putD]; rfl
theorem evS_slice (t : Nat) (x : Operand) (lo hi : Option Operand) : evStep P all bs ⟨some d, .slice t x lo hi none, ty, pos, af, none⟩ l ⟨n, s, st⟩ K = (d < n ∧ optK (evSlice P t (AS.ev ⟨n, s, st⟩ x) (lo.map (AS.ev ⟨n, s, st⟩)) (hi.map (AS.ev ⟨n, s, st⟩))) fun v => evOps P all bs l ⟨n, upd s d v, st⟩ K) := by
  rw [evStep]; simp only [evOp, optK_putD]; rfl
theorem evS_fieldAddr (t : Nat) (x : Operand) (f : Nat) : evStep P all bs ⟨some d, .fieldAddr t x f, ty, pos, af, none⟩ l ⟨n, s, st⟩ K = (d < n ∧ optK (evFieldAddr P t (AS.ev ⟨n, s, st⟩ x) f) fun v => evOps P all bs l ⟨n, upd s d v, st⟩ K) := by
  rw [evStep]; simp only [evOp, optK_putD]; rfl
theorem evS_field (t : Nat) (x : Operand) (f : Nat) : evStep P all bs ⟨some d, .field t x f, ty, pos, af, none⟩ l ⟨n, s, st⟩ K = (d < n ∧ optK (evField P t (AS.ev ⟨n, s, st⟩ x) f) fun v => evOps P all bs l ⟨n, upd s d v, st⟩ K) := by
  rw [evStep]; simp only [evOp, optK_putD]; rfl
theorem evS_indexAddr (t : Nat) (x y : Operand) : evStep P all bs ⟨some d, .indexAddr t x y, ty, pos, af, none⟩ l ⟨n, s, st⟩ K = (d < n ∧ optK (evIndexAddr P t (AS.ev ⟨n, s, st⟩ x) (AS.ev ⟨n, s, st⟩ y)) fun v => evOps P all bs l ⟨n, upd s d v, st⟩ K) := by
  rw [evStep]; simp only [evOp, optK_putD]; rfl
theorem evS_index (t : Nat) (x y : Operand) : evStep P all bs ⟨some d, .index t x y, ty, pos, af, none⟩ l ⟨n, s, st⟩ K = (d < n ∧ optK (evIndex P t (AS.ev ⟨n, s, st⟩ x) (AS.ev ⟨n, s, st⟩ y)) fun v => evOps P all bs l ⟨n, upd s d v, st⟩ K) := by
  rw [evStep]; simp only [evOp, optK_putD]; rfl
theorem evS_makeSlice (t : Nat) (x y : Operand) : evStep P all bs ⟨some d, .makeSlice t x y, ty, pos, af, none⟩ l ⟨n, s, st⟩ K = (d < n ∧ optK (evMakeSlice P t ⟨n, s, st⟩ d x y) fun S' => evOps P all bs l S' K) := by
  rw [evStep]; simp only [evOp, optK_withD]
theorem evS_extract (x : Operand) (i : Nat) : evStep P all bs ⟨some d, .extract x i, ty, pos, af, none⟩ l ⟨n, s, st⟩ K = (d < n ∧ optK (evExtract ⟨n, s, st⟩ d x i) fun S' => evOps P all bs l S' K) := by
  rw [evStep]; simp only [evOp, optK_withD]
theorem evS_builtin (b : Builtin) (args : Array Operand) (tys : Array Nat) : evStep P all bs ⟨some d, .call ⟨.builtin b, args, tys⟩, ty, pos, af, none⟩ l ⟨n, s, st⟩ K = (d < n ∧ optK (evBuiltin P ⟨n, s, st⟩ d b tys.toList args.toList) fun S' => evOps P all bs l S' K) := by
  rw [evStep]; simp only [evOp, optK_withD]
theorem evS_makeFunc (f : Nat) (caps : Array Operand) : evStep P all bs ⟨some d, .makeFunc (.func f) #[] caps, ty, pos, af, none⟩ l ⟨n, s, st⟩ K = (d < n ∧ optK (evMakeFunc ⟨n, s, st⟩ f caps.toList) fun v => evOps P all bs l ⟨n, upd s d v, st⟩ K) := by
  rw [evStep]; simp only [evOp, if_true, optK_putD]; rfl
end

/-- the state a function begins with, slot by slot -/
def enterAt (n : Nat) : Nat → List V → (Nat → V) → (Nat → V)
  | _, [], s => s
  | k, v :: vs, s => enterAt n (k + 1) vs (upd s k v)

theorem enterAt_spec (n : Nat) (vs : List V) : ∀ (k : Nat) (s : Nat → V) (j : Nat), enterAt n k vs s j = if k ≤ j then (match vs[j - k]? with | some v => v | none => s j) else s j := by
  induction vs with
  | nil => intro k s j; simp [enterAt]
  | cons v vs ih =>
    intro k s j
    rw [enterAt, ih]
    by_cases h1 : k + 1 ≤ j
    · have h2 : k ≤ j := by omega
      have h3 : j - k = (j - (k + 1)) + 1 := by omega
      have h4 : j ≠ k := by omega
      simp only [h1, h2, if_true, h3, List.getElem?_cons_succ, upd_at, h4, if_false]
    · by_cases h2 : j = k
      · subst h2; simp [upd_at, h1]
      · have h3 : ¬ k ≤ j := by omega
        simp [upd_at, h1, h2, h3]

theorem enter_eq (n : Nat) (vs : List V) (st : List Ob) : AS.enter n vs st = ⟨n, enterAt n 0 vs fun _ => .tup [], st⟩ := by
  unfold AS.enter
  congr 1
  funext j
  rw [enterAt_spec]
  simp only [Nat.zero_le, if_true, Nat.sub_zero, List.getD]
  cases vs[j]? <;> rfl

theorem FnA.of_code {f : Nat} {fn : Func} {c : Code} {args : List V} {st : List Ob} {Q : V → List Ob → Prop} (n m : Nat) (hm : st.length ≤ m) (hf : P.funcs[f]? = some fn) (hb : fn.body = some c) (hN : fn.ntmps = n) (hn : args.length ≤ n)
    (h : ∀ (C : Ctx) (R : Exit → AS → Prop), (∀ S, (optK (resA P S fn.results.toList) fun v => v.ahead m = true ∧ Q v (S.st.take m)) → R .ret S ∧ R .normal S) →
      W P C c ⟨n, enterAt n 0 args fun _ => .tup [], st⟩ R) : FnA P f args st Q := by
  subst hN
  refine FnA.of_body m hm hf hb hn fun C => ?_
  rw [enter_eq]
  exact h C _ fun S hS => ⟨hS, hS⟩

theorem st_get (st l : List Ob) (k : Nat) : (st ++ l)[st.length + k]? = l[k]? := by
  rw [List.getElem?_append_right (by omega)]; congr 1; omega
theorem st_get0 (st l : List Ob) : (st ++ l)[st.length]? = l[0]? := st_get st l 0
theorem st_set (st l : List Ob) (k : Nat) (b : Ob) : (st ++ l).set (st.length + k) b = st ++ l.set k b := by
  rw [List.set_append_right _ _ (by omega)]; congr 2; omega
theorem st_set0 (st l : List Ob) (b : Ob) : (st ++ l).set st.length b = st ++ l.set 0 b := st_set st l 0 b
theorem st_take (st l : List Ob) : (st ++ l).take st.length = st := by simp

theorem W_loop_k {α : Type} {c : Code} {Q : Exit → AS → Prop} (I : α → AS → Prop) (μ : α → Nat) (x : α) (h0 : I x S)
    (round : ∀ x S, I x S → ∀ K : AS → Prop, (∀ y S', μ y < μ x → I y S' → K S') → W P C c S (thenE K Q)) : W P C (.loop c) S Q :=
  W_loop I μ x h0 fun x S h => round x S h _ fun y S' h1 h2 => ⟨y, h2, h1⟩

theorem CallThen.of {f : Nat} {args : List V} {all : List Oper} {bs : List Nat} {l : List Oper} {n : Nat} {s : Nat → V} {st : List Ob} {d : Nat} {K : AS → Prop} {Q : V → List Ob → Prop} (h1 : isOwn P f = true) (h : FnA P f args st Q)
    (hk : ∀ v st', Q v st' → evOps P all bs l ⟨n, upd s d v, st'⟩ K) : CallThen P f args all bs l n s st (some d) K := .inl ⟨h1, Q, h, hk⟩

theorem CallThen.ofN {f : Nat} {args : List V} {all : List Oper} {bs : List Nat} {l : List Oper} {n : Nat} {s : Nat → V} {st : List Ob} {K : AS → Prop} {Q : V → List Ob → Prop} (h1 : isOwn P f = true) (h : FnA P f args st Q)
    (hk : ∀ v st', Q v st' → evOps P all bs l ⟨n, s, st'⟩ K) : CallThen P f args all bs l n s st none K := .inl ⟨h1, Q, h, hk⟩

/-- a call of a function that answers r and leaves the objects alone -/
theorem CallThen.eq {f : Nat} {args : List V} {all : List Oper} {bs : List Nat} {l : List Oper} {n : Nat} {s : Nat → V} {st : List Ob} {d : Nat} {K : AS → Prop} {r : V} (h1 : isOwn P f = true) (h : FnA P f args st (fun v st' => v = r ∧ st' = st))
    (hk : evOps P all bs l ⟨n, upd s d r, st⟩ K) : CallThen P f args all bs l n s st (some d) K :=
  .inl ⟨h1, _, h, fun v st' ⟨e1, e2⟩ => e1 ▸ e2 ▸ hk⟩

end
end Go.AL
