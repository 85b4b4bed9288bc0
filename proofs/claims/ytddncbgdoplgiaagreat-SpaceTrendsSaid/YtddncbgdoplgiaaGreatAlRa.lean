import Derived.Test.YtddncbgdoplgiaaGreatAlZb
namespace Go.AL
open Go.RowKit

/-! ### Residual programs: an interpreter whose unfolding over a known text is a plain function of the arguments -/

section vals
variable (P : Program)

def stOf (st : List Ob) : AS := ⟨0, fun _ => .dead, st⟩
def loadV (t : TypeId) (st : List Ob) (u : V) : Option V := evLoad P t (stOf st) u
/-- a load from a row that will not change -/
def loadE (t : TypeId) (u : V) : Option V :=
  match u with
  | .elem v => if tyS P t = some (v.isAgg, v.size) then some v.view else none
  | _ => none
def takeV (t : TypeId) (st : List Ob) (p : V) : Option (V × List Ob) :=
  match p with
  | .ptr o off q =>
    match st[o]? with
    | some (.box v0) => (v0.at? q).bind fun r =>
      if r.1 = off ∧ tyS P t = some (r.2.isAgg, r.2.size) ∧ r.2.isOwn = true then some (r.2, st.set o (.box (v0.set q r.2.view))) else none
    | _ => none
  | _ => none
def storeV (t : TypeId) (st : List Ob) (p x : V) : Option (List Ob) :=
  match p with
  | .ptr o off q =>
    match st[o]? with
    | some (.box v) => (v.at? q).bind fun r =>
      if r.1 = off ∧ x.isVal ∧ (tyS P t).map (·.2) = some x.size ∧ x.size = r.2.size ∧ x.ahead o then some (st.set o (.box (v.set q x))) else none
    | _ => none
  | _ => none
def srcV (st : List Ob) (v : V) : Option (List V) := (stOf st).src v
def appendV (t u : TypeId) (st : List Ob) (s x : V) : Option V :=
  match s, srcV st x with
  | .own e k xs, some ys =>
    (slcS P t).bind fun e' => (elS P e').bind fun q =>
      if notInt P u = true ∧ 0 < q.1 ∧ ((e = e' ∧ k = q.1) ∨ (k = 0 ∧ xs = [])) ∧ V.allSize q.1 ys ∧ (xs.length + ys.length) * q.2 ≤ 140737488355328 ∧ xs.length + ys.length ≤ 9223372036854775807 then
        some (.own e' q.1 (xs ++ ys))
      else none
  | _, _ => none
def convV (s t : TypeId) (st : List Ob) (v : V) : Option V := evConvS P (stOf st) s t v
def lenV (t : TypeId) (st : List Ob) (v : V) : Option V := evLen P t (stOf st) v
def lenE (t : TypeId) (v : V) : Option V := evLen P t (stOf []) v
def lookupV (t : TypeId) (st : List Ob) (m k : V) (ok : Bool) : Option V := evLookup P t (stOf st) m k ok
def mapUpdV (t : TypeId) (st : List Ob) (m k v : V) : Option (List Ob) := (evMapUpdate P t (stOf st) m k v).map (·.st)
def makeFuncV (f : FuncId) (vs : List V) : Option V := if vs.all V.isCell then some (.fn f (vs.map V.view)) else none
def buildV (t : TypeId) (ps : List (Nat × V)) : Option V :=
  (zeroOf P t).bind fun z =>
    if shapeOk P t z = true ∧ placesOk P t z.parts ps = true then (setParts z.parts ps).map z.withParts else none
def buildSliceV (t : TypeId) (len : Nat) (ps : List (Nat × V)) : Option V :=
  (slcS P t).bind fun e => (elS P e).bind fun q =>
    if ps.map (·.1) = List.range len ∧ 0 < q.1 ∧ len * q.1 ≤ 16777216 ∧ (ps.all fun p => p.2.isVal && decide (p.2.size = q.1)) = true then
      some (.own e q.1 (ps.map fun p => p.2.view))
    else none
def makeSliceV (t : TypeId) (l c : V) : Option V :=
  (slcS P t).bind fun e => (elS P e).bind fun q => (zeroOf P e).bind fun z =>
    match l, c with
    | .int _ n, .int _ m =>
      if q.1 = 1 ∧ 0 ≤ n ∧ n ≤ m ∧ (q.2 : Int) * m ≤ 281474976710656 ∧ m ≤ 9223372036854775807 then some (.own e 1 (List.replicate n.toNat z)) else none
    | _, _ => none
def extractV (v : V) (i : Nat) : Option V := match v with | .tup vs => vs[i]? | _ => none
def extractRest (v : V) (i : Nat) : V := match v with | .tup vs => .tup (vs.set i (vs.getD i .dead).view) | v => v
def callD (D : FEv) (v : V) (args : List V) (st : List Ob) : Option (V × List Ob) :=
  match v with
  | .fn f caps => if isOwn P f then D f (args ++ caps) st else none
  | _ => none
end vals

section
variable {R : Type}

def condK (v : V) (x y : Option R) : Option R :=
  match v with
  | .bool true => x
  | .bool false => y
  | _ => none

abbrev splitB (v : V) (k : V → Option R) : Option R := condK v (k (.bool true)) (k (.bool false))

abbrev guardSlots (all : List Oper) : List Nat := all.filterMap fun o => match o.guard with | some (j, _) => (all[j]?).bind (·.dst) | none => none

abbrev putK (S : AS) (d : Option Nat) (v : Option V) (k : AS → Option R) : Option R :=
  match d with
  | some d => if d < S.n then v.bind fun v => k (S.put d v) else none
  | none => none
abbrev withK (S : AS) (d : Option Nat) (k : Nat → Option R) : Option R :=
  match d with
  | some d => if d < S.n then k d else none
  | none => none
abbrev viewAt (S : AS) (x : Operand) : AS := match x with | .tmp t => { S with s := upd S.s t (S.s t).view } | _ => S

/-- an operation that is no call of a function -/
abbrev opK (P : Program) (bs gs : List Nat) (o : Oper) (S : AS) (k : AS → Option R) : Option R :=
  match o.op with
  | .move x => withK S o.dst fun d =>
      if bs.contains d then k ((viewAt S x).put d (S.ev x))
      else if gs.contains d then splitB (S.ev x).view fun v => k (S.put d v)
      else k (S.put d (S.ev x).view)
  | .assign x => withK S o.dst fun d => k ((viewAt S x).put d (S.ev x))
  | .pick c x y => withK S o.dst fun d => condK (S.ev c) (k (S.put d (S.ev x).view)) (k (S.put d (S.ev y).view))
  | .alloc e => withK S o.dst fun d => (zeroOf P e).bind fun v => k (AS.put { S with st := S.st ++ [.box v] } d (.ptr S.st.length 0 []))
  | .box _ x => withK S o.dst fun d => if (S.ev x).isVal ∧ (S.ev x).ahead S.st.length then k (AS.put { S with st := S.st ++ [.box (S.ev x).view] } d (.ptr S.st.length 0 [])) else none
  | .build t parts => putK S o.dst (buildV P t (parts.toList.map fun q => (q.1, S.ev q.2))) k
  | .buildSlice t len parts => putK S o.dst (buildSliceV P t len (parts.toList.map fun q => (q.1, S.ev q.2))) k
  | .load t x => withK S o.dst fun d =>
      if bs.contains d then (takeV P t S.st (S.ev x)).bind fun r => k { S with s := upd S.s d r.1, st := r.2 }
      else (loadV P t S.st (S.ev x)).bind fun v => k (S.put d v)
  | .store t p x => match o.dst with
    | none => (storeV P t S.st (S.ev p) (S.ev x)).bind fun st => k { viewAt S x with st := st }
    | some _ => none
  | .nilCheck x => putK S o.dst (evNilCheck (S.ev x)) k
  | .binOp op t x y _ => putK S o.dst (evBn P op t (S.ev x) (S.ev y)) k
  | .unOp op _ x => putK S o.dst (evUn op (S.ev x)) k
  | .convert s t x => putK S o.dst (convV P s t S.st (S.ev x)) k
  | .makeFunc (.func f) first caps => if first = #[] then putK S o.dst (makeFuncV f (caps.toList.map S.ev)) k else none
  | .makeSlice t l c => putK S o.dst (makeSliceV P t (S.ev l) (S.ev c)) k
  | .slice t x lo hi none => putK S o.dst (evSlice P t (S.ev x) (lo.map S.ev) (hi.map S.ev)) k
  | .fieldAddr t x f => putK S o.dst (evFieldAddr P t (S.ev x) f) k
  | .field t x f => putK S o.dst (evField P t (S.ev x) f) k
  | .indexAddr t x i => putK S o.dst (evIndexAddr P t (S.ev x) (S.ev i)) k
  | .index t x i => putK S o.dst (evIndex P t (S.ev x) (S.ev i)) k
  | .extract (.tmp t) i => withK S o.dst fun d => (extractV (S.s t) i).bind fun v => k { S with s := upd (upd S.s t (extractRest (S.s t) i)) d v }
  | .makeMap _ none => withK S o.dst fun d => k (AS.put { S with st := S.st ++ [.map []] } d (.mp S.st.length))
  | .lookup t x i ok => putK S o.dst (lookupV P t S.st (S.ev x) (S.ev i) ok) k
  | .mapUpdate t m i x => match o.dst with
    | none => (mapUpdV P t S.st (S.ev m) (S.ev i) (S.ev x)).bind fun st => k { S with st := st }
    | some _ => none
  | .call c => match c.callee, c.argTypes.toList, c.args.toList with
    | .builtin .append, [t, u], [.tmp s, x] => withK S o.dst fun d =>
        if d = s then none else (appendV P t u S.st (S.s s) (S.ev x)).bind fun v => k { S with s := upd (upd S.s s (S.s s).view) d v }
    | .builtin .len, [t], [x] => putK S o.dst (lenV P t S.st (S.ev x)) k
    | .builtin .min, _, [x, y] => putK S o.dst (evMm false (S.ev x) (S.ev y)) k
    | .builtin .max, _, [x, y] => putK S o.dst (evMm true (S.ev x) (S.ev y)) k
    | _, _, _ => none
  | _ => none

/-- an operation of class 0 that is no call: its value rests on the slots -/
abbrev opL (P : Program) (gs : List Nat) (o : Oper) (S : AS) (k : AS → Option R) : Option R :=
  match o.op with
  | .move x => withK S o.dst fun d => if gs.contains d then splitB (S.ev x).view fun v => k (S.put d v) else k (S.put d (S.ev x).view)
  | .assign x => withK S o.dst fun d => k (S.put d (S.ev x).view)
  | .pick c x y => withK S o.dst fun d => condK (S.ev c) (k (S.put d (S.ev x).view)) (k (S.put d (S.ev y).view))
  | .build t parts => putK S o.dst (buildV P t (parts.toList.map fun q => (q.1, S.ev q.2))) k
  | .buildSlice t len parts => putK S o.dst (buildSliceV P t len (parts.toList.map fun q => (q.1, S.ev q.2))) k
  | .load t x => putK S o.dst (loadE P t (S.ev x)) k
  | .nilCheck x => putK S o.dst (evNilCheck (S.ev x)) k
  | .binOp op t x y _ => putK S o.dst (evBn P op t (S.ev x) (S.ev y)) k
  | .unOp op _ x => putK S o.dst (evUn op (S.ev x)) k
  | .convert s t x => putK S o.dst (evCv P s t (S.ev x)) k
  | .makeFunc (.func f) first caps => if first = #[] then putK S o.dst (makeFuncV f (caps.toList.map S.ev)) k else none
  | .slice t x lo hi none => putK S o.dst (evSlice P t (S.ev x) (lo.map S.ev) (hi.map S.ev)) k
  | .fieldAddr t x f => putK S o.dst (evFieldAddr P t (S.ev x) f) k
  | .field t x f => putK S o.dst (evField P t (S.ev x) f) k
  | .indexAddr t x i => putK S o.dst (evIndexAddr P t (S.ev x) (S.ev i)) k
  | .index t x i => putK S o.dst (evIndex P t (S.ev x) (S.ev i)) k
  | .extract x i => putK S o.dst ((extractV (S.ev x) i).map V.view) k
  | .call c => match c.callee, c.argTypes.toList, c.args.toList with
    | .builtin .len, [t], [x] => putK S o.dst (lenE P t (S.ev x)) k
    | .builtin .min, _, [x, y] => putK S o.dst (evMm false (S.ev x) (S.ev y)) k
    | .builtin .max, _, [x, y] => putK S o.dst (evMm true (S.ev x) (S.ev y)) k
    | _, _, _ => none
  | _ => none

open Classical in
noncomputable def sameK (st st' : List Ob) (x : Option R) : Option R := if st = st' then x else none

abbrev putOK (S : AS) (dst : Option Nat) (r : V × List Ob) (k : AS → Option R) : Option R :=
  match dst with
  | some d => if d < S.n then k (AS.put { S with st := r.2 } d r.1) else none
  | none => k { S with st := r.2 }

noncomputable abbrev goK (P : Program) (F D : FEv) (bs gs : List Nat) (c : Nat) (o : Oper) (S : AS) (k : AS → Option R) : Option R :=
  match c with
  | 0 => match o.op with
    | .call cl => match cl.callee with
      | .value x => withK S o.dst fun d =>
        if V.aheads 0 (cl.args.toList.map fun x => (S.ev x).view) = true then
          match x with
          | .func f => if isOwn P f then (F f (cl.args.toList.map fun x => (S.ev x).view) []).bind fun r => if r.2.isEmpty then k (S.put d r.1) else none else none
          | _ => none
        else none
      | _ => opL P gs o S k
    | _ => opL P gs o S k
  | 1 => match o.op with
    | .load t x => putK S o.dst (loadV P t S.st (S.ev x)) k
    | .lookup t x y ok => putK S o.dst (lookupV P t S.st (S.ev x) (S.ev y) ok) k
    | .call cl => match cl.callee with
      | .value x => withK S o.dst fun d => match x with
        | .func f => if isOwn P f then (F f (cl.args.toList.map fun x => (S.ev x).view) S.st).bind fun r => sameK r.2 S.st (k (S.put d r.1)) else none
        | x => (callD P D (S.ev x) (cl.args.toList.map fun x => (S.ev x).view) S.st).bind fun r => sameK r.2 S.st (k (S.put d r.1))
      | _ => none
    | _ => none
  | _ => match o.op with
    | .call cl => match cl.callee with
      | .value x => match x with
        | .func f => if isOwn P f then (F f (cl.args.toList.map fun x => (S.ev x).view) S.st).bind fun r => putOK S o.dst r k else (natV P f (cl.args.toList.map fun x => (S.ev x).view)).bind fun v => putOK S o.dst (v, S.st) k
        | x => (callD P D (S.ev x) (cl.args.toList.map fun x => (S.ev x).view) S.st).bind fun r => putOK S o.dst r k
      | _ => opK P bs gs o S k
    | _ => opK P bs gs o S k

abbrev skipK (c : Nat) (o : Oper) (S : AS) (k : AS → Option R) : Option R :=
  match o.dst with
  | some d => if d < S.n then k (S.put d (.tup [])) else none
  | none => if c = 2 then k S else none

abbrev guardK (v : V) (b : Bool) (x y : Option R) : Option R :=
  match v with
  | .bool t => if t = b then x else y
  | .tup _ => y
  | _ => none

noncomputable abbrev stepK (P : Program) (F D : FEv) (all : List Oper) (bs gs : List Nat) (c : Nat) (o : Oper) (S : AS) (k : AS → Option R) : Option R :=
  match o.guard with
  | none => goK P F D bs gs c o S k
  | some (j, b) => match (all[j]?).bind (·.dst) with
    | some d => guardK (S.s d) b (goK P F D bs gs c o S k) (skipK c o S k)
    | none => skipK c o S k

noncomputable abbrev regK (P : Program) (F D : FEv) (all : List Oper) (bs gs : List Nat) : List (Nat × Oper) → AS → (AS → Option R) → Option R
  | [], S, k => k S
  | (c, o) :: l, S, k => stepK P F D all bs gs c o S fun S' => regK P F D all bs gs l S' k
end

theorem clsStep_mono {P : Program} {bs : List Nat} {c : Nat} {o : Oper} {K K' : AS → Prop} {S : AS} (hk : ∀ S, K S → K' S) (h : clsStep P bs c o K S) : clsStep P bs c o K' S := by
  have lm : ∀ {d : Nat}, (d < S.n ∧ optK (lightV P S o) fun v => K (S.put d v)) → d < S.n ∧ optK (lightV P S o) fun v => K' (S.put d v) := fun ⟨h1, h2⟩ => ⟨h1, optK_mono h2 fun v h => hk _ h⟩
  match c, h with
  | 0, h =>
    unfold clsStep at *
    simp only at h ⊢
    cases ho : o.op with
    | call cl =>
      simp only [ho] at h ⊢
      cases hc : cl.callee with
      | value x =>
        simp only [hc] at h ⊢
        split at h
        · split at h
          · obtain ⟨h1, h2, h3, v, h4, h5⟩ := h
            exact ⟨h1, h2, h3, v, h4, hk _ h5⟩
          · exact h
        · exact h
      | builtin b =>
        simp only [hc] at h ⊢
        split at h
        · exact lm h
        · exact h
      | invoke r m =>
        simp only [hc] at h ⊢
        split at h
        · exact lm h
        · exact h
    | _ =>
      simp only [ho] at h ⊢
      split at h
      · exact lm h
      · exact h
  | 1, h =>
    unfold clsStep at *
    simp only at h ⊢
    split at h
    · exact ⟨h.1, optK_mono h.2 fun v h => hk _ h⟩
    · exact ⟨h.1, optK_mono h.2 fun v h => hk _ h⟩
    · split at h
      · split at h
        · obtain ⟨h1, h2, v, h3, h4⟩ := h
          exact ⟨h1, h2, v, h3, hk _ h4⟩
        · exact h
      · exact h
    · exact h
  | c + 2, h =>
    unfold clsStep at *
    exact heavyA_mono hk h

/-! soundness -/
section
variable {R : Type} {P : Program} {C : Ctx} {S S' : AS} {F D : FEv} {bs gs : List Nat} {o : Oper} {k : AS → Option R} {r : R}

theorem upd_self (s : Nat → V) (t : Nat) : upd s t (s t) = s := by
  funext i; simp only [upd]; split
  · rename_i h; rw [h]
  · rfl

mutual
theorem view_of_not_owns : ∀ (v : V), v.owns = false → v.view = v
  | .agg fs, h => by simp only [V.owns, V.view] at *; rw [views_of_not_ownss fs h]
  | .arr n k xs, h => by simp only [V.owns, V.view] at *; rw [views_of_not_ownss xs h]
  | .tup xs, h => by simp only [V.owns, V.view] at *; rw [views_of_not_ownss xs h]
  | .own e k xs, h => by simp [V.owns] at h
  | .bool _, _ | .int _ _, _ | .flt _ _, _ | .str _, _ | .nilp, _ | .nilf, _ | .nili, _ | .nilm, _ | .list _, _
  | .ptr _ _ _, _ | .bsl _ _ _ _ _, _ | .elem _, _ | .fn _ _, _ | .mp _, _ | .dead, _ => by simp [V.view]
theorem views_of_not_ownss : ∀ (vs : List V), V.ownss vs = false → V.views vs = vs
  | [], _ => by simp [V.views]
  | v :: vs, h => by
    simp only [V.ownss, Bool.or_eq_false_iff] at h
    simp only [V.views, view_of_not_owns v h.1, views_of_not_ownss vs h.2]
end

theorem evGive_eq (S : AS) (d : Nat) (x : Operand) : evGive S d x = some ((viewAt S x).put d (S.ev x)) := by
  unfold evGive viewAt
  cases x with
  | tmp t =>
    have e : S.ev (.tmp t) = S.s t := rfl
    by_cases h : (S.ev (.tmp t)).owns = true
    · rw [if_pos h]; rfl
    · rw [if_neg h]; simp only [e] at h ⊢; rw [view_of_not_owns _ (by simpa using h), upd_self]
  | _ => simp


theorem withK_some {d : Option Nat} {k : Nat → Option R} (h : withK S d k = some r) : ∃ d', d = some d' ∧ d' < S.n ∧ k d' = some r := by
  unfold withK at h; split at h
  · split at h
    · exact ⟨_, rfl, by assumption, h⟩
    · cases h
  · cases h

theorem putK_some {d : Option Nat} {v : Option V} (h : putK S d v k = some r) : ∃ d' u, d = some d' ∧ d' < S.n ∧ v = some u ∧ k (S.put d' u) = some r := by
  unfold putK at h; split at h
  · split at h
    · simp only [Option.bind_eq_some_iff] at h
      obtain ⟨u, hu, h⟩ := h
      exact ⟨_, u, rfl, by assumption, hu, h⟩
    · cases h
  · cases h

theorem putK_evOp {v v' : Option V} (h : putK S o.dst v k = some r) (hv : ∀ u, v = some u → v' = some u) : ∃ S', putD S o.dst v' = some S' ∧ k S' = some r := by
  obtain ⟨d, u, hd, hn, hu, hk⟩ := putK_some h
  exact ⟨_, by rw [hd, hv u hu]; simp [putD, hn], hk⟩

theorem condK_some {v : V} {x y : Option R} (h : condK v x y = some r) : ∃ t, v = .bool t ∧ (if t then x else y) = some r := by
  unfold condK at h; split at h
  · exact ⟨true, rfl, by simpa using h⟩
  · exact ⟨false, rfl, by simpa using h⟩
  · cases h

theorem splitB_some {v : V} {k : V → Option R} (h : splitB v k = some r) : k v = some r := by
  obtain ⟨t, rfl, h2⟩ := condK_some h
  cases t <;> simpa using h2

theorem opK_sound (h : opK P bs gs o S k = some r) : ∃ S', evOp P bs.contains S o = some S' ∧ k S' = some r := by
  unfold opK at h
  unfold evOp
  split at h
  · rename_i x ho
    obtain ⟨d, hd, hn, h⟩ := withK_some h
    simp only [ho, withD, hd, hn, if_true]
    split at h
    · rename_i hb
      simp only [hb, if_true, evGive_eq]
      exact ⟨_, rfl, h⟩
    · rename_i hb
      simp only [hb, evMove]
      refine ⟨_, rfl, ?_⟩
      split at h
      · exact splitB_some h
      · exact h
  · rename_i x ho
    obtain ⟨d, hd, hn, h⟩ := withK_some h
    simp only [ho, withD, hd, hn, if_true, evGive_eq]
    exact ⟨_, rfl, h⟩
  · rename_i c x y ho
    obtain ⟨d, hd, hn, h⟩ := withK_some h
    obtain ⟨t, ht, h⟩ := condK_some h
    simp only [ho, putD, hd, hn, if_true, evPick, ht, Option.map_some]
    refine ⟨_, rfl, ?_⟩
    cases t <;> simpa using h
  · rename_i e ho
    obtain ⟨d, hd, hn, h⟩ := withK_some h
    simp only [Option.bind_eq_some_iff] at h
    obtain ⟨v, hv, h⟩ := h
    simp only [ho, withD, hd, hn, if_true, evAlloc, hv, Option.map_some]
    exact ⟨_, rfl, h⟩
  · rename_i e x ho
    obtain ⟨d, hd, hn, h⟩ := withK_some h
    split at h
    · rename_i hc
      simp only [ho, withD, hd, hn, if_true, evBox, if_pos hc]
      exact ⟨_, rfl, h⟩
    · cases h
  · rename_i t parts ho
    simp only [ho]
    exact putK_evOp h fun u hu => hu
  · rename_i t len parts ho
    obtain ⟨d, u, hd, hn, hu, hk⟩ := putK_some h
    simp only [ho, withD, hd, hn, if_true]
    refine ⟨_, ?_, hk⟩
    unfold buildSliceV at hu
    unfold evBuildSlice
    simp only [Option.bind_eq_some_iff] at hu ⊢
    obtain ⟨e, he, q, hq, hu⟩ := hu
    refine ⟨e, he, q, hq, ?_⟩
    split at hu
    · rename_i hc
      injection hu with hu; subst hu
      simp only [List.map_map, List.all_map] at hc
      rw [if_pos (by simpa [Function.comp_def] using hc)]
      simp [Function.comp_def]
    · cases hu
  · rename_i t x ho
    obtain ⟨d, hd, hn, h⟩ := withK_some h
    simp only [ho, isBase, hd]
    split at h
    · rename_i hb
      simp only [hb, if_true, withD, hn]
      simp only [Option.bind_eq_some_iff] at h
      obtain ⟨q, hq, h⟩ := h
      refine ⟨_, ?_, h⟩
      unfold takeV at hq
      unfold evTake
      split at hq
      · rename_i oo off p hp
        split at hq
        · rename_i v0 hst
          simp only [Option.bind_eq_some_iff] at hq
          obtain ⟨u, hu, hq⟩ := hq
          split at hq
          · rename_i hc
            injection hq with hq; subst hq
            simp only [hp, hst, hu, Option.bind_some, if_pos hc]
          · cases hq
        · cases hq
      · cases hq
    · rename_i hb
      simp only [hb, Bool.false_eq_true, if_false, putD, hn, if_true]
      simp only [Option.bind_eq_some_iff] at h
      obtain ⟨v, hv, h⟩ := h
      exact ⟨_, by rw [show evLoad P t S (S.ev x) = some v from hv]; rfl, h⟩
  · rename_i t p x ho
    split at h
    · rename_i hd
      simp only [ho, hd, if_true]
      simp only [Option.bind_eq_some_iff] at h
      obtain ⟨st, hq, h⟩ := h
      refine ⟨_, ?_, h⟩
      unfold storeV at hq
      unfold evStore
      split at hq
      · rename_i oo off q hp
        split at hq
        · rename_i v0 hst
          simp only [Option.bind_eq_some_iff] at hq
          obtain ⟨u, hu, hq⟩ := hq
          split at hq
          · rename_i hc
            injection hq with hq; subst hq
            simp only [hp, hst, hu, Option.bind_some, if_pos hc]
            cases x with
            | tmp t =>
              have e : S.ev (.tmp t) = S.s t := rfl
              by_cases hown : (S.ev (.tmp t)).owns = true
              · rw [if_pos hown]
              · rw [if_neg hown]; simp only [e, viewAt] at hown ⊢; rw [view_of_not_owns _ (by simpa using hown), upd_self]
            | _ => simp [viewAt]
          · cases hq
        · cases hq
      · cases hq
    · cases h
  · rename_i x ho; simp only [ho]; exact putK_evOp h fun u hu => hu
  · rename_i op t x y yt ho; simp only [ho]; exact putK_evOp h fun u hu => hu
  · rename_i op t x ho; simp only [ho]; exact putK_evOp h fun u hu => hu
  · rename_i s t x ho; simp only [ho]; exact putK_evOp h fun u hu => hu
  · rename_i f first caps ho
    split at h
    · rename_i hf
      simp only [ho, hf, if_true]
      refine putK_evOp h fun u hu => ?_
      unfold makeFuncV at hu
      unfold evMakeFunc
      split at hu
      · rename_i hc
        injection hu with hu; subst hu
        rw [if_pos (by simpa [List.all_map, Function.comp_def] using hc)]
        simp [List.map_map, Function.comp_def]
      · cases hu
    · cases h
  · rename_i t l c ho
    obtain ⟨d, u, hd, hn, hu, hk⟩ := putK_some h
    simp only [ho, withD, hd, hn, if_true]
    refine ⟨_, ?_, hk⟩
    unfold makeSliceV at hu
    unfold evMakeSlice
    simp only [Option.bind_eq_some_iff] at hu ⊢
    obtain ⟨e, he, q, hq, z, hz, hu⟩ := hu
    refine ⟨e, he, q, hq, z, hz, ?_⟩
    split at hu
    · rename_i h1 h2
      split at hu
      · rename_i hc
        injection hu with hu; subst hu
        simp only [h1, h2, if_pos hc]
      · cases hu
    · cases hu
  · rename_i t x lo hi ho; simp only [ho]; exact putK_evOp h fun u hu => hu
  · rename_i t x f ho; simp only [ho]; exact putK_evOp h fun u hu => hu
  · rename_i t x f ho; simp only [ho]; exact putK_evOp h fun u hu => hu
  · rename_i t x i ho; simp only [ho]; exact putK_evOp h fun u hu => hu
  · rename_i t x i ho; simp only [ho]; exact putK_evOp h fun u hu => hu
  · rename_i t i ho
    obtain ⟨d, hd, hn, h⟩ := withK_some h
    simp only [Option.bind_eq_some_iff] at h
    obtain ⟨v, hv, h⟩ := h
    simp only [ho, withD, hd, hn, if_true]
    refine ⟨_, ?_, h⟩
    unfold extractV at hv
    unfold evExtract extractRest
    simp only [AS.ev]
    split at hv
    · rename_i vs hvs
      simp only [hvs, hv, Option.bind_some]
      by_cases hown : v.owns = true
      · rw [if_pos hown]; simp [List.getD, hv]
      · rw [if_neg hown]
        have : upd S.s t (.tup (vs.set i v.view)) = S.s := by
          rw [view_of_not_owns _ (by simpa using hown)]
          have : vs.set i v = vs := by
            have hi := (List.getElem?_eq_some_iff.1 hv)
            obtain ⟨hi, e⟩ := hi
            rw [← e]; exact List.set_getElem_self hi
          rw [this, ← hvs, upd_self]
        simp only [List.getD, hv, Option.getD_some, this]
        rfl
    · cases hv
  · rename_i t ho
    obtain ⟨d, hd, hn, h⟩ := withK_some h
    simp only [ho, withD, hd, hn, if_true]
    exact ⟨_, rfl, h⟩
  · rename_i t x i ok ho; simp only [ho]; exact putK_evOp h fun u hu => hu
  · rename_i t m i x ho
    split at h
    · rename_i hd
      simp only [ho, hd, if_true]
      simp only [Option.bind_eq_some_iff] at h
      obtain ⟨st, hq, h⟩ := h
      refine ⟨_, ?_, h⟩
      unfold mapUpdV at hq
      simp only [Option.map_eq_some_iff] at hq
      obtain ⟨S1, hq, rfl⟩ := hq
      unfold evMapUpdate at hq ⊢
      split at hq
      · rename_i oo kk n hm hi
        simp only [Option.bind_eq_some_iff] at hq ⊢
        obtain ⟨q, hq1, hq⟩ := hq
        refine ⟨q, hq1, ?_⟩
        split at hq
        · rename_i hc
          rw [if_pos hc]
          split at hq
          · rename_i es hes
            simp only [Option.map_eq_some_iff] at hq
            obtain ⟨r', hr', rfl⟩ := hq
            have hes' : S.st[oo]? = some (.map es) := hes
            simp only [hes', hr', Option.map_some]
            rfl
          · cases hq
        · cases hq
      · cases hq
    · cases h
  · rename_i c ho
    split at h
    · rename_i t u s x hc ht hx
      obtain ⟨d, hd, hn, h⟩ := withK_some h
      split at h
      · cases h
      · rename_i hne
        simp only [Option.bind_eq_some_iff] at h
        obtain ⟨v, hv, h⟩ := h
        simp only [ho, hc, withD, hd, hn, if_true, evBuiltin, ht, hx]
        refine ⟨_, ?_, h⟩
        unfold appendV at hv
        unfold evAppend
        split at hv
        · rename_i e kk xs ys hs hy
          have hy' : S.src (S.ev x) = some ys := hy
          have hs' : S.ev (.tmp s) = .own e kk xs := hs
          simp only [hs', hy']
          simp only [Option.bind_eq_some_iff] at hv ⊢
          obtain ⟨e', he', q, hq, hv⟩ := hv
          refine ⟨e', he', q, hq, ?_⟩
          split at hv
          · rename_i hcnd
            injection hv with hv; subst hv
            simp only [if_pos hcnd, ne_eq, hne, not_false_eq_true, if_true]
          · cases hv
        · cases hv
    · rename_i t x hc ht hx
      obtain ⟨d, u, hd, hn, hu, hk⟩ := putK_some h
      simp only [ho, hc, withD, hd, hn, if_true, evBuiltin, ht, hx]
      exact ⟨_, by rw [show evLen P t S (S.ev x) = some u from hu]; rfl, hk⟩
    · rename_i x y hc hx
      obtain ⟨d, u, hd, hn, hu, hk⟩ := putK_some h
      simp only [ho, hc, withD, hd, hn, if_true, evBuiltin, hx]
      exact ⟨_, by rw [hu]; rfl, hk⟩
    · rename_i x y hc hx
      obtain ⟨d, u, hd, hn, hu, hk⟩ := putK_some h
      simp only [ho, hc, withD, hd, hn, if_true, evBuiltin, hx]
      exact ⟨_, by rw [hu]; rfl, hk⟩
    · cases h
  · cases h

theorem putK_light {v v' : Option V} (h : putK S o.dst v k = some r) (hv : ∀ u, v = some u → v' = some u) : ∃ d u, o.dst = some d ∧ d < S.n ∧ v' = some u ∧ k (S.put d u) = some r := by
  obtain ⟨d, u, hd, hn, hu, hk⟩ := putK_some h
  exact ⟨d, u, hd, hn, hv u hu, hk⟩

theorem opL_sound (h : opL P gs o S k = some r) : ∃ d u, o.dst = some d ∧ d < S.n ∧ lightV P S o = some u ∧ k (S.put d u) = some r := by
  unfold opL at h
  unfold lightV
  split at h
  · rename_i x ho
    obtain ⟨d, hd, hn, h⟩ := withK_some h
    simp only [ho]
    refine ⟨d, _, hd, hn, rfl, ?_⟩
    split at h
    · exact splitB_some h
    · exact h
  · rename_i x ho
    obtain ⟨d, hd, hn, h⟩ := withK_some h
    simp only [ho]
    exact ⟨d, _, hd, hn, rfl, h⟩
  · rename_i c x y ho
    obtain ⟨d, hd, hn, h⟩ := withK_some h
    obtain ⟨t, ht, h⟩ := condK_some h
    simp only [ho, evPick, ht]
    refine ⟨d, _, hd, hn, rfl, ?_⟩
    cases t <;> simpa using h
  · rename_i t parts ho
    simp only [ho]
    exact putK_light h fun u hu => hu
  · rename_i t len parts ho
    simp only [ho]
    refine putK_light h fun u hu => ?_
    unfold buildSliceV at hu
    unfold evBuildSliceV
    simp only [Option.bind_eq_some_iff] at hu ⊢
    obtain ⟨e, he, q, hq, hu⟩ := hu
    refine ⟨e, he, q, hq, ?_⟩
    split at hu
    · rename_i hc
      injection hu with hu; subst hu
      simp only [List.map_map, List.all_map] at hc
      rw [if_pos (by simpa [Function.comp_def] using hc)]
      simp [Function.comp_def]
    · cases hu
  · rename_i t x ho; simp only [ho]; exact putK_light h fun u hu => hu
  · rename_i x ho; simp only [ho]; exact putK_light h fun u hu => hu
  · rename_i op t x y yt ho; simp only [ho]; exact putK_light h fun u hu => hu
  · rename_i op t x ho; simp only [ho]; exact putK_light h fun u hu => hu
  · rename_i s t x ho; simp only [ho]; exact putK_light h fun u hu => hu
  · rename_i f first caps ho
    split at h
    · rename_i hf
      simp only [ho, hf, if_true]
      refine putK_light h fun u hu => ?_
      unfold makeFuncV at hu
      unfold evMakeFunc
      split at hu
      · rename_i hc
        injection hu with hu; subst hu
        rw [if_pos (by simpa [List.all_map, Function.comp_def] using hc)]
        simp [List.map_map, Function.comp_def]
      · cases hu
    · cases h
  · rename_i t x lo hi ho; simp only [ho]; exact putK_light h fun u hu => hu
  · rename_i t x f ho; simp only [ho]; exact putK_light h fun u hu => hu
  · rename_i t x f ho; simp only [ho]; exact putK_light h fun u hu => hu
  · rename_i t x i ho; simp only [ho]; exact putK_light h fun u hu => hu
  · rename_i t x i ho; simp only [ho]; exact putK_light h fun u hu => hu
  · rename_i x i ho
    simp only [ho]
    refine putK_light h fun u hu => ?_
    simp only [Option.map_eq_some_iff] at hu
    obtain ⟨v, hv, rfl⟩ := hu
    unfold extractV at hv
    split at hv
    · rename_i vs hvs; simp only [hvs, hv, Option.map_some]
    · cases hv
  · rename_i c ho
    split at h
    · rename_i t x hc ht hx
      simp only [ho, hc]
      exact putK_light h fun u hu => by unfold lightB; simp only [ht, hx]; exact hu
    · rename_i x y hc hx
      simp only [ho, hc]
      exact putK_light h fun u hu => by unfold lightB; simp only [hx]; exact hu
    · rename_i x y hc hx
      simp only [ho, hc]
      exact putK_light h fun u hu => by unfold lightB; simp only [hx]; exact hu
    · cases h
  · cases h

theorem putOK_sound {q : V × List Ob} (h : putOK S o.dst q k = some r) : (match o.dst with | some d => d < S.n | none => True) ∧ k (putO { S with st := q.2 } o.dst q.1) = some r := by
  unfold putOK at h
  split at h
  · rename_i d hd
    split at h
    · rename_i hn; simp only [hd]; exact ⟨hn, h⟩
    · cases h
  · rename_i hd; simp only [hd]; exact ⟨trivial, h⟩

theorem callD_some {v : V} {args : List V} {st : List Ob} {q : V × List Ob} (h : callD P D v args st = some q) : ∃ f caps, v = .fn f caps ∧ isOwn P f = true ∧ D f (args ++ caps) st = some q := by
  unfold callD at h
  split at h
  · split at h
    · exact ⟨_, _, rfl, by assumption, h⟩
    · cases h
  · cases h

theorem goK_sound (hF : SoundF P F) (hD : SoundF P D) {c : Nat} (h : goK P F D bs gs c o S k = some r) : clsStep P bs c o (fun S' => k S' = some r) S := by
  have lt : opL P gs o S k = some r → match o.dst with | some d => d < S.n ∧ optK (lightV P S o) fun v => k (S.put d v) = some r | none => False := fun h => by
    obtain ⟨d, u, hd, hn, hu, hk⟩ := opL_sound h
    rw [hd, hu]; exact ⟨hn, hk⟩
  have hv : opK P bs gs o S k = some r → optK (evOp P bs.contains S o) fun S' => k S' = some r := fun h => by
    obtain ⟨S', h1, h2⟩ := opK_sound h
    rw [h1]; exact h2
  unfold goK at h
  unfold clsStep
  split at h
  · simp only
    split at h
    · rename_i cl ho
      simp only [ho]
      split at h
      · rename_i x hc
        simp only [hc]
        obtain ⟨d, hd, hn, h⟩ := withK_some h
        split at h
        · rename_i ha
          split at h
          · rename_i f
            split at h
            · rename_i hown
              simp only [Option.bind_eq_some_iff] at h
              obtain ⟨q, hq, h⟩ := h
              split at h
              · rename_i hq2
                have hq2 : q.2 = [] := by simpa using hq2
                simp only [AS.ev, hd, List.append_nil]
                refine ⟨hn, hown, ha, q.1, ?_, h⟩
                have := hF _ _ _ q hq
                rw [hq2] at this; exact this
              · cases h
            · cases h
          · cases h
        · cases h
      · rename_i hc
        have h := lt h
        cases hcc : cl.callee with
        | value x => exact (hc x hcc).elim
        | builtin b => simp only [ho, hcc] at h ⊢; exact h
        | invoke r m => simp only [ho, hcc] at h ⊢; exact h
    · rename_i ho
      have h := lt h
      split
      · rename_i cl hcl; exact (ho cl hcl).elim
      · exact h
  · simp only
    split at h
    · rename_i t x ho
      obtain ⟨d, u, hd, hn, hu, hk⟩ := putK_some h
      simp only [ho, hd]
      exact ⟨hn, by rw [show evLoad P t S (S.ev x) = some u from hu]; exact hk⟩
    · rename_i t x y ok ho
      obtain ⟨d, u, hd, hn, hu, hk⟩ := putK_some h
      simp only [ho, hd]
      exact ⟨hn, by rw [show evLookup P t S (S.ev x) (S.ev y) ok = some u from hu]; exact hk⟩
    · rename_i cl ho
      split at h
      · rename_i x hc
        obtain ⟨d, hd, hn, h⟩ := withK_some h
        simp only [ho, hd, hc]
        split at h
        · rename_i f
          split at h
          · rename_i hown
            simp only [Option.bind_eq_some_iff] at h
            obtain ⟨q, hq, h⟩ := h
            unfold sameK at h
            split at h
            · rename_i hst
              simp only [AS.ev, List.append_nil]
              refine ⟨hn, hown, q.1, ?_, h⟩
              have := hF _ _ _ q hq
              rw [hst] at this; exact this
            · cases h
          · cases h
        · simp only [Option.bind_eq_some_iff] at h
          obtain ⟨q, hq, h⟩ := h
          unfold sameK at h
          split at h
          · rename_i hst
            obtain ⟨f, caps, hv, hown, hq⟩ := callD_some hq
            simp only [hv]
            refine ⟨hn, hown, q.1, ?_, h⟩
            have := hD _ _ _ q hq
            rw [hst] at this; exact this
          · cases h
      · cases h
    · cases h
  · rename_i h0 h1
    split
    · exact (h0 rfl).elim
    · exact (h1 rfl).elim
    · unfold heavyA
      split at h
      · rename_i cl ho
        simp only [ho]
        split at h
        · rename_i x hc
          simp only [hc]
          split at h
          · rename_i f
            split at h
            · rename_i hown
              simp only [Option.bind_eq_some_iff] at h
              obtain ⟨q, hq, h⟩ := h
              obtain ⟨h1, h2⟩ := putOK_sound h
              simp only [AS.ev, List.append_nil]
              exact ⟨h1, .inl ⟨hown, _, hF _ _ _ q hq, fun v st' ⟨e1, e2⟩ => by rw [e1, e2]; exact h2⟩⟩
            · simp only [Option.bind_eq_some_iff] at h
              obtain ⟨v, hv, h⟩ := h
              obtain ⟨h1, h2⟩ := putOK_sound h
              simp only [AS.ev, List.append_nil]
              exact ⟨h1, .inr ⟨v, hv, h2⟩⟩
          · simp only [Option.bind_eq_some_iff] at h
            obtain ⟨q, hq, h⟩ := h
            obtain ⟨h1, h2⟩ := putOK_sound h
            obtain ⟨f, caps, hv, hown, hq⟩ := callD_some hq
            simp only [hv]
            exact ⟨h1, .inl ⟨hown, _, hD _ _ _ q hq, fun v st' ⟨e1, e2⟩ => by rw [e1, e2]; exact h2⟩⟩
        · rename_i hc
          have h := hv h
          cases hcc : cl.callee with
          | value x => exact (hc x hcc).elim
          | builtin b => simp only [ho, hcc] at h ⊢; exact h
          | invoke r m => simp only [ho, hcc] at h ⊢; exact h
      · rename_i ho
        have h := hv h
        split
        · rename_i cl hcl; exact (ho cl hcl).elim
        · exact h

theorem skipK_sound {c : Nat} (h : skipK c o S k = some r) : (match o.dst with | some d => d < S.n | none => c = 2) ∧ k (S.skip o.dst) = some r := by
  unfold skipK at h
  split at h
  · rename_i d hd
    split at h
    · rename_i hn; simp only [hd]; exact ⟨hn, h⟩
    · cases h
  · rename_i hd
    split at h
    · rename_i hc; simp only [hd]; exact ⟨hc, h⟩
    · cases h

theorem guardK_some {v : V} {b : Bool} {x y : Option R} (h : guardK v b x y = some r) : (v = .bool b ∧ x = some r) ∨ ((∃ t, v = .bool t ∧ t ≠ b) ∧ y = some r) ∨ ((∃ vs, v = .tup vs) ∧ y = some r) := by
  unfold guardK at h
  split at h
  · split at h
    · rename_i e; exact .inl ⟨by rw [e], h⟩
    · rename_i e; exact .inr (.inl ⟨⟨_, rfl, e⟩, h⟩)
  · exact .inr (.inr ⟨⟨_, rfl⟩, h⟩)
  · cases h

theorem regK_sound (hF : SoundF P F) (hD : SoundF P D) {all : List Oper} : ∀ (l : List (Nat × Oper)) (S : AS) (k : AS → Option R), regK P F D all bs gs l S k = some r → evLin P all bs l S (fun S' => k S' = some r)
  | [], S, k, h => h
  | (c, o) :: l, S, k, h => by
    have ih := fun S' h => regK_sound hF hD (all := all) l S' k h
    change stepK P F D all bs gs c o S (fun S' => regK P F D all bs gs l S' k) = some r at h
    rw [evLin]
    have go : goK P F D bs gs c o S (fun S' => regK P F D all bs gs l S' k) = some r → clsStep P bs c o (fun S => evLin P all bs l S fun S' => k S' = some r) S := fun h => by
      have h1 := goK_sound hF hD h
      exact clsStep_mono (fun S' h => ih S' h) h1
    have sk : skipK c o S (fun S' => regK P F D all bs gs l S' k) = some r → (match o.dst with | some d => d < S.n | none => c = 2) ∧ evLin P all bs l (S.skip o.dst) (fun S' => k S' = some r) := fun h => by
      obtain ⟨h1, h2⟩ := skipK_sound h
      exact ⟨h1, ih _ h2⟩
    unfold stepK at h
    unfold wantA
    split at h
    · rename_i hg
      simp only [hg]
      exact go h
    · rename_i j b hg
      simp only [hg]
      split at h
      · rename_i d hd
        simp only [hd]
        rcases guardK_some h with ⟨hv, h⟩ | ⟨⟨t, hv, hne⟩, h⟩ | ⟨⟨vs, hv⟩, h⟩
        · simp only [hv, beq_self_eq_true]; exact go h
        · have : (t == b) = false := by cases t <;> cases b <;> simp_all
          simp only [hv, this]; exact sk h
        · simp only [hv]; exact sk h
      · rename_i hd
        simp only [hd]; exact sk h

/-! regions whose order is open -/
def apartB (v : V) (ts : List V) : Bool := match v with
  | .ptr n _ _ => ts.all fun t => match t with | .ptr o _ _ => n != o | _ => false
  | _ => false

/-- T: is it a load from an object that need not wait, and for which addresses? -/
noncomputable abbrev goD (P : Program) (F D : FEv) (bs gs : List Nat) (c : Nat) (T : Option (List Nat)) (o : Oper) (S : AS) (k : AS → Option R) : Option R :=
  match T with
  | none => goK P F D bs gs c o S k
  | some T => match c, o.op with
    | 1, .load ty x => if apartB (S.ev x) (T.map S.s) = true then putK S o.dst (loadV P ty S.st (S.ev x)) k else none
    | _, _ => none

noncomputable abbrev stepD (P : Program) (F D : FEv) (all : List Oper) (bs gs : List Nat) (c : Nat) (T : Option (List Nat)) (o : Oper) (S : AS) (k : AS → Option R) : Option R :=
  match o.guard with
  | none => goD P F D bs gs c T o S k
  | some (j, b) => match (all[j]?).bind (·.dst) with
    | some d => guardK (S.s d) b (goD P F D bs gs c T o S k) (skipK c o S k)
    | none => skipK c o S k

noncomputable abbrev regD (P : Program) (F D : FEv) (all : List Oper) (bs gs : List Nat) : List (Nat × Option (List Nat) × Oper) → AS → (AS → Option R) → Option R
  | [], S, k => k S
  | (c, T, o) :: l, S, k => stepD P F D all bs gs c T o S fun S' => regD P F D all bs gs l S' k

def orderB (md : Region.Mode) (ops : Array Oper) (bs : List Nat) (cls : Nat → Nat) : List (Nat × Option (List Nat)) → Array Bool → Bool
  | [], listed => (Region.ready md ops listed).isEmpty
  | (i, T) :: l, listed =>
    ((decide (cls i < 2) && (Region.ready md ops listed).contains i && freeS md ops bs cls listed T.isSome (T.getD []) i) || Region.ready md ops listed == [i]) && orderB md ops bs cls l (listed.setIfInBounds i true)

theorem goD_sound (hF : SoundF P F) (hD : SoundF P D) {c : Nat} {T : Option (List Nat)} (h : goD P F D bs gs c T o S k = some r) : clsStep P bs c o (fun S' => k S' = some r) S := by
  unfold goD at h
  split at h
  · exact goK_sound hF hD h
  · split at h
    · rename_i ty x ho
      split at h
      · exact goK_sound hF hD (c := 1) (gs := gs) (by simp only [goK, ho]; exact h)
      · cases h
    · cases h

theorem apartB_spec {v : V} {ts : List V} (h : apartB v ts = true) : ∃ n off p, v = .ptr n off p ∧ ∀ t ∈ ts, ∃ o off' p', t = .ptr o off' p' ∧ n ≠ o := by
  unfold apartB at h
  split at h
  · rename_i n off p
    refine ⟨n, off, p, rfl, fun t ht => ?_⟩
    have := List.all_eq_true.1 h t ht
    split at this
    · exact ⟨_, _, _, rfl, by simpa using this⟩
    · cases this
  · cases h

theorem goD_some {c : Nat} {T : List Nat} (h : goD P F D bs gs c (some T) o S k = some r) : ∃ ty x, c = 1 ∧ o.op = .load ty x ∧ apartB (S.ev x) (T.map S.s) = true ∧ putK S o.dst (loadV P ty S.st (S.ev x)) k = some r := by
  unfold goD at h
  simp only at h
  split at h
  · rename_i ty x ho
    split at h
    · exact ⟨ty, x, rfl, ho, by assumption, h⟩
    · cases h
  · cases h

theorem loadV_len {t n off : Nat} {p : List Nat} {st : List Ob} {u : V} (h : loadV P t st (.ptr n off p) = some u) : n < st.length := by
  unfold loadV evLoad AS.deref stOf at h
  simp only [Option.bind_eq_some_iff] at h
  obtain ⟨v, hv, _⟩ := h
  split at hv
  · rename_i x hx; exact (List.getElem?_eq_some_iff.1 hx).1
  · cases hv

theorem regD_sound (hF : SoundF P F) (hD : SoundF P D) {ops : Array Oper} {cls : Nat → Nat} : ∀ (l : List (Nat × Option (List Nat))) (listed : Array Bool) (S : AS) (fuel : Nat), l.length ≤ fuel →
    orderB .any ops bs cls l listed = true → (∀ p ∈ l, p.1 < ops.size) → regD P F D ops.toList bs gs (l.filterMap fun p => (ops[p.1]?).map fun o => (cls p.1, p.2, o)) S k = some r →
    anyA P .any ops bs cls (fun S' => k S' = some r) fuel listed S
  | [], listed, S, fuel, _, hb, _, h => anyA_done (by simpa [orderB] using hb) h fuel
  | (i, T) :: l, listed, S, 0, hl, _, _, _ => by simp at hl
  | (i, T) :: l, listed, S, fuel + 1, hl, hb, hsz, h => by
    have ih := fun S' h => regD_sound hF hD l (listed.setIfInBounds i true) S' fuel (by simpa using hl) (by
      simp only [orderB, Bool.and_eq_true] at hb; exact hb.2) (fun p hp => hsz p (by simp [hp])) h
    have hi : i < ops.size := hsz (i, T) (by simp)
    obtain ⟨oi, ho⟩ : ∃ oi, ops[i]? = some oi := ⟨ops[i], Array.getElem?_eq_getElem hi⟩
    rw [List.filterMap_cons_some (b := (cls i, T, oi)) (by simp [ho])] at h
    change stepD P F D ops.toList bs gs (cls i) T oi S (fun S' => regD P F D ops.toList bs gs (l.filterMap fun p => (ops[p.1]?).map fun o => (cls p.1, p.2, o)) S' k) = some r at h
    -- what it comes to
    have key : (wantA ops.toList S oi = some true ∧ goD P F D bs gs (cls i) T oi S (fun S' => regD P F D ops.toList bs gs (l.filterMap fun p => (ops[p.1]?).map fun o => (cls p.1, p.2, o)) S' k) = some r) ∨
        (wantA ops.toList S oi = some false ∧ skipK (cls i) oi S (fun S' => regD P F D ops.toList bs gs (l.filterMap fun p => (ops[p.1]?).map fun o => (cls p.1, p.2, o)) S' k) = some r) := by
      unfold stepD at h
      unfold wantA
      split at h
      · rename_i hg; simp only [hg]; exact .inl ⟨trivial, h⟩
      · rename_i j b hg
        simp only [hg]
        split at h
        · rename_i d hd
          simp only [hd]
          rcases guardK_some h with ⟨hv, h⟩ | ⟨⟨t, hv, hne⟩, h⟩ | ⟨⟨vs, hv⟩, h⟩
          · simp only [hv, beq_self_eq_true]; exact .inl ⟨trivial, h⟩
          · have : (t == b) = false := by cases t <;> cases b <;> simp_all
            simp only [hv, this]; exact .inr ⟨trivial, h⟩
          · simp only [hv]; exact .inr ⟨trivial, h⟩
        · rename_i hd; simp only [hd]; exact .inr ⟨trivial, h⟩
    have hst : stepA P ops bs cls i (anyA P .any ops bs cls (fun S' => k S' = some r) fuel (listed.setIfInBounds i true)) S := by
      rcases key with ⟨hw, h⟩ | ⟨hw, h⟩
      · exact clsStep_stepA ho hw (clsStep_mono (fun S' h => ih S' h) (goD_sound hF hD h))
      · obtain ⟨h1, h2⟩ := skipK_sound h
        exact skip_stepA ho hw ⟨h1, ih _ h2⟩
    simp only [orderB, Bool.and_eq_true, Bool.or_eq_true, decide_eq_true_eq] at hb
    obtain ⟨hb | hb, _⟩ := hb
    · obtain ⟨⟨hcl, hr⟩, hfr⟩ := hb
      obtain ⟨oi', d, ho', hd, hfree⟩ := freeS_spec hfr
      rw [ho] at ho'; injection ho' with e; subst e
      have hst' := hst
      unfold stepA at hst'
      simp only [ho, if_pos hcl] at hst'
      obtain ⟨d', v, hd', hy, hk⟩ := hst'
      rw [hd] at hd'; injection hd' with e; subst e
      have hr' : i ∈ Region.ready .any ops listed := by simpa using hr
      cases T with
      | none => exact anyA_first ho hcl (fun h => h) hd fuel listed S (hfree (cls i) S (fun h => h) (fun h => by cases h)) hr' hy hk
      | some T =>
        rcases key with ⟨hw, h⟩ | ⟨hw, h⟩
        · obtain ⟨ty, x, hc1, hop, hap, h⟩ := goD_some h
          obtain ⟨n, off, p, hx, hts⟩ := apartB_spec hap
          obtain ⟨d2, u, hd2, hn, hu, hk2⟩ := putK_some h
          rw [hd] at hd2; injection hd2 with e; subst e
          have hy2 : Yv (n + 2) P ops oi d u S := .loadO hop hx hd hn hw hu
          have hlen : n < S.st.length := by rw [hx] at hu; exact loadV_len hu
          refine anyA_first ho hcl (fun h0 => by omega) hd fuel listed S (hfree (n + 2) S (fun h0 => by omega) fun _ => ⟨n, rfl, hlen, fun t' ht' => ?_⟩) hr' hy2 (ih _ hk2)
          exact hts (S.s t') (List.mem_map.2 ⟨t', ht', rfl⟩)
        · obtain ⟨h1, h2⟩ := skipK_sound h
          rw [hd] at h1 h2
          -- a skipped one rests on nothing
          have hy2 : ∀ c, Yv c P ops oi d (.tup []) S := fun c => .skip h1 hw
          have hfr' : Free .any ops bs cls 0 i oi listed S := by
            intro j oj hj hne hun hno
            unfold freeS at hfr
            simp only [ho, Bool.and_eq_true] at hfr
            have h3 := List.all_eq_true.1 hfr.2 j (List.mem_range.2 (Array.getElem?_eq_some_iff.1 hj).1)
            simp only [hj, Bool.or_eq_true, beq_iff_eq, hne, false_or, hun, Bool.false_eq_true, Bool.and_eq_true] at h3
            rcases h3 with h3 | ⟨h3, h4⟩
            · obtain ⟨e, he, hb⟩ := Array.any_eq_true'.1 h3
              simp only [Bool.and_eq_true, beq_iff_eq] at hb
              exact absurd hb.2 (hno e he hb.1)
            · refine ⟨h3, fun hl2 => ?_⟩
              rcases h4 with h4 | ⟨h4, _⟩
              · exact absurd (by simpa using h4) hl2
              · exact ⟨⟨fun t ht => by simpa using List.all_eq_true.1 h4 t ht, .inl rfl⟩, .inl (.inl rfl)⟩
          exact anyA_first ho hcl (fun _ => rfl) hd fuel listed S hfr' hr' (hy2 0) (ih _ h2)
    · exact anyA_single (by simpa using hb) hst

end
end Go.AL
