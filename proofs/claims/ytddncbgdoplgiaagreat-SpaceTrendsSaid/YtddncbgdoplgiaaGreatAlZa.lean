import Derived.Test.YtddncbgdoplgiaaGreatAlY
namespace Go.AL
open Go.RowKit

/-! ### are two values the same? -/
mutual
def V.eqB : V → V → Bool
  | .bool a, .bool b => a == b
  | .int k n, .int k' m => decide (k = k') && (n == m)
  | .flt k n, .flt k' m => decide (k = k') && (n == m)
  | .str s, .str t => s == t
  | .nilp, .nilp | .nilf, .nilf | .nili, .nili | .nilm, .nilm | .dead, .dead => true
  | .agg us, .agg vs => V.eqsB us vs
  | .arr n k us, .arr m l vs => (n == m) && (k == l) && V.eqsB us vs
  | .list us, .list vs => V.eqsB us vs
  | .own e k us, .own e' k' vs => (e == e') && (k == k') && V.eqsB us vs
  | .ptr o off p, .ptr o' off' p' => (o == o') && (off == off') && (p == p')
  | .bsl o off p l n, .bsl o' off' p' l' n' => (o == o') && (off == off') && (p == p') && (l == l') && (n == n')
  | .elem u, .elem v => V.eqB u v
  | .fn f us, .fn g vs => (f == g) && V.eqsB us vs
  | .mp o, .mp o' => o == o'
  | .tup us, .tup vs => V.eqsB us vs
  | _, _ => false
def V.eqsB : List V → List V → Bool
  | [], [] => true
  | u :: us, v :: vs => V.eqB u v && V.eqsB us vs
  | _, _ => false
end
mutual
theorem eqB_eq : ∀ (u v : V), V.eqB u v = true → u = v
  | .bool a, v, h => by cases v <;> simp_all [V.eqB]
  | .int k n, v, h => by cases v <;> simp_all [V.eqB]
  | .flt k n, v, h => by cases v <;> simp_all [V.eqB]
  | .str s, v, h => by cases v <;> simp_all [V.eqB]
  | .nilp, v, h => by cases v <;> simp_all [V.eqB]
  | .nilf, v, h => by cases v <;> simp_all [V.eqB]
  | .nili, v, h => by cases v <;> simp_all [V.eqB]
  | .nilm, v, h => by cases v <;> simp_all [V.eqB]
  | .dead, v, h => by cases v <;> simp_all [V.eqB]
  | .agg us, v, h => by
    cases v <;> simp only [V.eqB, Bool.false_eq_true] at h
    rw [eqsB_eq us _ h]
  | .arr n k us, v, h => by
    cases v <;> simp only [V.eqB, Bool.false_eq_true, Bool.and_eq_true, beq_iff_eq] at h
    rw [eqsB_eq us _ h.2, h.1.1, h.1.2]
  | .list us, v, h => by
    cases v <;> simp only [V.eqB, Bool.false_eq_true] at h
    rw [eqsB_eq us _ h]
  | .own e k us, v, h => by
    cases v <;> simp only [V.eqB, Bool.false_eq_true, Bool.and_eq_true, beq_iff_eq] at h
    rw [eqsB_eq us _ h.2, h.1.1, h.1.2]
  | .ptr o off p, v, h => by cases v <;> simp_all [V.eqB]
  | .bsl o off p l n, v, h => by cases v <;> simp_all [V.eqB]
  | .elem u, v, h => by
    cases v <;> simp only [V.eqB, Bool.false_eq_true] at h
    rw [eqB_eq u _ h]
  | .fn f us, v, h => by
    cases v <;> simp only [V.eqB, Bool.false_eq_true, Bool.and_eq_true, beq_iff_eq] at h
    rw [eqsB_eq us _ h.2, h.1]
  | .mp o, v, h => by cases v <;> simp_all [V.eqB]
  | .tup us, v, h => by
    cases v <;> simp only [V.eqB, Bool.false_eq_true] at h
    rw [eqsB_eq us _ h]
theorem eqsB_eq : ∀ (us vs : List V), V.eqsB us vs = true → us = vs
  | [], vs, h => by cases vs <;> simp_all [V.eqsB]
  | u :: us, vs, h => by
    cases vs with
    | nil => simp [V.eqsB] at h
    | cons v vs =>
      simp only [V.eqsB, Bool.and_eq_true] at h
      rw [eqB_eq u v h.1, eqsB_eq us vs h.2]
end
def mapEqB : List (V × V) → List (V × V) → Bool
  | [], [] => true
  | (a, b) :: us, (c, d) :: vs => V.eqB a c && V.eqB b d && mapEqB us vs
  | _, _ => false
def Ob.eqB : Ob → Ob → Bool
  | .box u, .box v => V.eqB u v
  | .map es, .map fs => mapEqB es fs
  | _, _ => false
def Ob.eqsB : List Ob → List Ob → Bool
  | [], [] => true
  | u :: us, v :: vs => Ob.eqB u v && Ob.eqsB us vs
  | _, _ => false
theorem mapEqB_eq : ∀ (us vs : List (V × V)), mapEqB us vs = true → us = vs
  | [], [], _ => rfl
  | [], _ :: _, h => by simp [mapEqB] at h
  | _ :: _, [], h => by simp [mapEqB] at h
  | (a, b) :: us, (c, d) :: vs, h => by
    simp only [mapEqB, Bool.and_eq_true] at h
    rw [eqB_eq a c h.1.1, eqB_eq b d h.1.2, mapEqB_eq us vs h.2]
theorem Ob.eqB_eq : ∀ (u v : Ob), Ob.eqB u v = true → u = v
  | .box u, .box v, h => by rw [Go.AL.eqB_eq u v h]
  | .map es, .map fs, h => by rw [mapEqB_eq es fs h]
  | .box _, .map _, h => by simp [Ob.eqB] at h
  | .map _, .box _, h => by simp [Ob.eqB] at h
theorem Ob.eqsB_eq : ∀ (us vs : List Ob), Ob.eqsB us vs = true → us = vs
  | [], [], _ => rfl
  | [], _ :: _, h => by simp [Ob.eqsB] at h
  | _ :: _, [], h => by simp [Ob.eqsB] at h
  | u :: us, v :: vs, h => by
    simp only [Ob.eqsB, Bool.and_eq_true] at h
    rw [Ob.eqB_eq u v h.1, Ob.eqsB_eq us vs h.2]

/-! ### an interpreter -/
inductive Ex where
  | nor | ex (id : Nat) | ret
  deriving DecidableEq

def Ex.toExit : Ex → Exit
  | .nor => .normal
  | .ex id => .exit id
  | .ret => .ret

section
variable (P : Program)

def dstB (d : Option Nat) (n : Nat) : Bool := match d with | some d => decide (d < n) | none => true

abbrev FEv := Nat → List V → List Ob → Option (V × List Ob)

def evalHeavy (F : FEv) (bs : List Nat) (o : Oper) (S : AS) : Option AS :=
  match o.op with
  | .call c =>
    match c.callee with
    | .value x =>
      match S.ev x with
      | .fn f caps =>
        if dstB o.dst S.n then
          if isOwn P f then (F f ((c.args.toList.map fun x => (S.ev x).view) ++ caps) S.st).map fun r => putO { S with st := r.2 } o.dst r.1
          else (natV P f ((c.args.toList.map fun x => (S.ev x).view) ++ caps)).map fun v => putO { S with st := S.st } o.dst v
        else none
      | _ => none
    | _ => evOp P bs.contains S o
  | _ => evOp P bs.contains S o

def evalCls (F : FEv) (bs : List Nat) (c : Nat) (o : Oper) (S : AS) : Option AS :=
  match c with
  | 0 =>
    match o.op with
    | .call cl => match cl.callee with
      | .value x => match S.ev x with
        | .fn f caps => match o.dst with
          | some d => if d < S.n ∧ isOwn P f = true ∧ V.aheads 0 ((cl.args.toList.map fun x => (S.ev x).view) ++ caps) = true then
              (F f ((cl.args.toList.map fun x => (S.ev x).view) ++ caps) []).bind fun r => if r.2.isEmpty then some (S.put d r.1) else none
            else none
          | none => none
        | _ => none
      | _ => putD S o.dst (lightV P S o)
    | _ => putD S o.dst (lightV P S o)
  | 1 =>
    match o.op with
    | .load t x => putD S o.dst (evLoad P t S (S.ev x))
    | .lookup t x y ok => putD S o.dst (evLookup P t S (S.ev x) (S.ev y) ok)
    | .call cl => match cl.callee with
      | .value x => match S.ev x with
        | .fn f caps => match o.dst with
          | some d => if d < S.n ∧ isOwn P f = true then
              (F f ((cl.args.toList.map fun x => (S.ev x).view) ++ caps) S.st).bind fun r => if Ob.eqsB r.2 S.st = true then some (S.put d r.1) else none
            else none
          | none => none
        | _ => none
      | _ => none
    | _ => none
  | _ => evalHeavy P F bs o S

def dstC (d : Option Nat) (n c : Nat) : Bool := match d with | some d => decide (d < n) | none => c == 2

def evalStep (F : FEv) (all : List Oper) (bs : List Nat) (c : Nat) (o : Oper) (S : AS) : Option AS :=
  match wantA all S o with
  | none => none
  | some false => if dstC o.dst S.n c then some (S.skip o.dst) else none
  | some true => evalCls P F bs c o S

def evalOps (F : FEv) (all : List Oper) (bs : List Nat) : List Oper → AS → Option AS
  | [], S => some S
  | o :: l, S => (evalStep P F all bs 2 o S).bind (evalOps F all bs l)

def bases (l : List Oper) : List Nat := l.filterMap fun o => match o.op with
  | .call c => (match c.callee, c.args.toList with | .builtin .append, .tmp t :: _ => some t | _, _ => none)
  | _ => none

/-- a guess at an operation's class -/
def kindCls (load call : Nat) (o : Oper) : Nat :=
  match o.op with
  | .load .. => load
  | .call c => match c.callee with | .builtin .len | .builtin .min | .builtin .max => 0 | .value _ => call | _ => 2
  | .alloc _ | .box .. | .store .. | .makeSlice .. | .makeMap .. | .lookup .. | .mapUpdate .. | .assign _ => 2
  | _ => 0

def clsOps (load call : Nat) (ops : Array Oper) (i : Nat) : Nat := match ops[i]? with | some o => (match o.dst with | some d => if (bases ops.toList).contains d then (match o.op with | .buildSlice .. => 0 | _ => 2) else kindCls load call o | none => 2) | none => 2

/-- the footprint of a value, and the addresses that it need not fear -/
def fpOf (c : Nat) (o : Oper) (S : AS) : Nat := if c = 1 then (match o.op with | .load _ x => (match S.ev x with | .ptr n _ _ => n + 2 | _ => c) | _ => c) else c
def apartD (ops : Array Oper) (c : Nat) (S : AS) : List Nat := ops.toList.filterMap fun o => match addrOf o with
  | some t => match S.s t with
    | .ptr n _ _ => if 2 ≤ c ∧ c ≠ n + 2 then some t else none
    | _ => none
  | none => none
def freeD (ops : Array Oper) (bs : List Nat) (cls : Nat → Nat) (listed : Array Bool) (S : AS) (i : Nat) : Bool :=
  match ops[i]? with
  | some o =>
    let c := fpOf (cls i) o S
    if wantA ops.toList S o = some true ∧ 2 ≤ c ∧ c - 2 < S.st.length then freeS .any ops bs cls listed true (apartD ops c S) i else freeS .any ops bs cls listed false [] i
  | none => false

def evalAny (F : FEv) (ops : Array Oper) (bs : List Nat) (cls : Nat → Nat) : Nat → Array Bool → AS → Option AS
  | 0, listed, S => if (Region.ready .any ops listed).isEmpty then some S else none
  | n + 1, listed, S =>
    match Region.ready .any ops listed with
    | [] => some S
    | r :: rs =>
      match (r :: rs).find? fun i => decide (cls i < 2) && freeD ops bs cls listed S i with
      | some i => match ops[i]? with
        | some o => (evalStep P F ops.toList bs (cls i) o S).bind (evalAny F ops bs cls n (listed.setIfInBounds i true))
        | none => none
      | none =>
        if rs.isEmpty then
          match ops[r]? with
          | some o => (evalStep P F ops.toList bs (cls r) o S).bind (evalAny F ops bs cls n (listed.setIfInBounds r true))
          | none => none
        else none

def evalTry (F : FEv) (ops : Array Oper) (S : AS) : List (Nat × Nat) → Option AS
  | [] => none
  | (a, b) :: l =>
    match evalAny P F ops (bases ops.toList) (clsOps a b ops) ops.size (Array.replicate ops.size false) S with
    | some S' => some S'
    | none => evalTry F ops S l

def evalRegion (F : FEv) (ops : Array Oper) (draw : Bool) (S : AS) : Option AS :=
  if draw then evalTry P F ops S [(1, 0), (1, 1), (1, 2), (0, 2), (0, 0), (0, 1), (2, 2)]
  else evalOps P F ops.toList (bases ops.toList) ops.toList S

def evalCode (F : FEv) : Nat → Code → AS → Option (Ex × AS)
  | 0, _, _ => none
  | n + 1, c, S =>
    match c with
    | .skip => some (.nor, S)
    | .ret => some (.ret, S)
    | .label _ => some (.nor, S)
    | .exit id => some (.ex id, S)
    | .seq x y => (evalCode F n x S).bind fun r => match r.1 with | .nor => evalCode F n y r.2 | e => some (e, r.2)
    | .cond c x y => match S.ev c with | .bool t => evalCode F n (if t then x else y) S | _ => none
    | .block id c => (evalCode F n c S).map fun r => match r.1 with | .ex i => if i = id then (.nor, r.2) else (.ex i, r.2) | e => (e, r.2)
    | .loop c => (evalCode F n c S).bind fun r => match r.1 with | .nor => evalCode F n (.loop c) r.2 | e => some (e, r.2)
    | .region _ ops draw => if draw && !P.follows .mixedOrders then none else (evalRegion P F ops draw S).map fun S' => (.nor, S')
    | _ => none

def evalFn (N : Nat) : Nat → FEv
  | 0, _, _, _ => none
  | d + 1, f, args, st =>
    match P.funcs[f]? with
    | none => none
    | some fn =>
      match fn.body with
      | none => none
      | some c =>
        if args.length ≤ fn.ntmps then
          (evalCode P (evalFn N d) N c ⟨fn.ntmps, enterAt fn.ntmps 0 args fun _ => .tup [], st⟩).bind fun r =>
            match r.1 with
            | .ex _ => none
            | _ => (resA P r.2 fn.results.toList).bind fun v =>
              if v.ahead st.length then some (v, r.2.st.take st.length)
              else if v.ahead r.2.st.length && decide (st.length ≤ r.2.st.length) then some (v, r.2.st) else none
        else none
end
end Go.AL
