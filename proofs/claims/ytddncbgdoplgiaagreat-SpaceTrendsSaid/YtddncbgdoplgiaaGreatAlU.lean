import Derived.Test.YtddncbgdoplgiaaGreatAlT
import Derived.Orders
namespace Go.AL
open Go.RowKit

section
variable {P : Program} {C : Ctx} {S : AS} {a : Act} {w w' : World} {G : Gh} {ρ ρ' : List Nat} {K : Nat → Nat}

/-! ### operations whose value rests on the slots alone -/
def lightB (P : Program) (S : AS) (b : Builtin) (ts : List TypeId) (xs : List Operand) : Option V :=
  match b, ts, xs with
  | .len, [t], [x] => evLen P t { S with st := [] } (S.ev x)
  | .min, _, [x, y] => evMm false (S.ev x) (S.ev y)
  | .max, _, [x, y] => evMm true (S.ev x) (S.ev y)
  | _, _, _ => none

def evBuildSliceV (P : Program) (t : TypeId) (len : Nat) (S : AS) (parts : List (Nat × Operand)) : Option V :=
  (slcS P t).bind fun e => (elS P e).bind fun q =>
    if parts.map (·.1) = List.range len ∧ 0 < q.1 ∧ len * q.1 ≤ 16777216 ∧ (parts.all fun p => (S.ev p.2).isVal && decide ((S.ev p.2).size = q.1)) = true then
      some (.own e q.1 (parts.map fun p => (S.ev p.2).view))
    else none

theorem evBuildSliceV_put {t len d : Nat} {parts : List (Nat × Operand)} {v : V} (h : evBuildSliceV P t len S parts = some v) : evBuildSlice P t len S d parts = some (S.put d v) := by
  unfold evBuildSliceV at h
  unfold evBuildSlice
  simp only [Option.bind_eq_some_iff] at h ⊢
  obtain ⟨e, he, q, hq, h⟩ := h
  split at h
  · rename_i hc
    injection h with h; subst h
    exact ⟨e, he, q, hq, by rw [if_pos hc]⟩
  · cases h

def lightV (P : Program) (S : AS) (o : Oper) : Option V :=
  match o.op with
  | .move x => some (S.ev x).view
  | .assign x => some (S.ev x).view
  | .pick c x y => evPick S c x y
  | .build t parts => evBuild P t S.ev parts.toList
  | .buildSlice t len parts => evBuildSliceV P t len S parts.toList
  | .load t x => match S.ev x with
    | .elem v => if tyS P t = some (v.isAgg, v.size) then some v.view else none
    | _ => none
  | .nilCheck x => evNilCheck (S.ev x)
  | .binOp op t x y _ => evBn P op t (S.ev x) (S.ev y)
  | .unOp op _ x => evUn op (S.ev x)
  | .convert s t x => evCv P s t (S.ev x)
  | .makeFunc (.func f) first caps => if first = #[] then evMakeFunc S f caps.toList else none
  | .slice t x lo hi none => evSlice P t (S.ev x) (lo.map S.ev) (hi.map S.ev)
  | .fieldAddr t x f => evFieldAddr P t (S.ev x) f
  | .field t x f => evField P t (S.ev x) f
  | .indexAddr t x i => evIndexAddr P t (S.ev x) (S.ev i)
  | .index t x i => evIndex P t (S.ev x) (S.ev i)
  | .extract x i => match S.ev x with
    | .tup vs => (vs[i]?).map V.view
    | _ => none
  | .call c =>
    match c.callee with
    | .builtin b => lightB P S b c.argTypes.toList c.args.toList
    | _ => none
  | _ => none

theorem evLen_st {t : TypeId} {v u : V} (h : evLen P t { S with st := [] } v = some u) : evLen P t S v = some u := by
  unfold evLen at h ⊢
  split at h <;> first | exact h | (simp at h; done) | skip
  all_goals (split at h <;> simp_all)

theorem evConvS_of {s t : TypeId} {v u : V} (h : evCv P s t v = some u) : evConvS P S s t v = some u := by
  unfold evConvS
  split
  · simp [evCv, evConv] at h
  · exact h

theorem light_sound {o : Oper} {d : Nat} {v : V} (hdst : o.dst = some d) (hd : d < S.n) (h : lightV P S o = some v) : OpA P C o S (· = S.put d v) := by
  have viaOp : ∀ {base : Nat → Bool}, evOp P base S o = some (S.put d v) → OpA P C o S (· = S.put d v) := fun h => evOp_sound h
  unfold lightV at h
  split at h
  · rename_i x ho
    injection h with h; subst h
    exact viaOp (base := fun _ => false) (by simp [evOp, ho, hdst, withD, hd, evMove])
  · rename_i x ho
    injection h with h; subst h
    refine OpA.pure hdst hd fun a w G hR => ?_
    obtain ⟨r, hv⟩ := hR.ev x
    exact ⟨a.eval x, by simp [execOp, ho], hv.view⟩
  · rename_i ho; exact viaOp (base := fun _ => false) (by simp [evOp, ho, hdst, putD, hd, h])
  · rename_i ho; exact viaOp (base := fun _ => false) (by simp [evOp, ho, hdst, putD, hd, h])
  · rename_i ho; exact viaOp (base := fun _ => false) (by simp [evOp, ho, hdst, withD, hd, evBuildSliceV_put h])
  · rename_i t x ho
    split at h
    · rename_i u hu
      exact viaOp (base := fun _ => false) (by simp [evOp, isBase, ho, hdst, putD, hd, evLoad, AS.deref, hu, h])
    · cases h
  · rename_i ho; exact viaOp (base := fun _ => false) (by simp [evOp, ho, hdst, putD, hd, h])
  · rename_i ho; exact viaOp (base := fun _ => false) (by simp [evOp, ho, hdst, putD, hd, h])
  · rename_i ho; exact viaOp (base := fun _ => false) (by simp [evOp, ho, hdst, putD, hd, h])
  · rename_i ho; exact viaOp (base := fun _ => false) (by simp [evOp, ho, hdst, putD, hd, evConvS_of h])
  · rename_i f first caps ho
    split at h
    · rename_i hf
      exact viaOp (base := fun _ => false) (by simp [evOp, ho, hdst, putD, hd, hf, h])
    · cases h
  · rename_i ho; exact viaOp (base := fun _ => false) (by simp [evOp, ho, hdst, putD, hd, h])
  · rename_i ho; exact viaOp (base := fun _ => false) (by simp [evOp, ho, hdst, putD, hd, h])
  · rename_i ho; exact viaOp (base := fun _ => false) (by simp [evOp, ho, hdst, putD, hd, h])
  · rename_i ho; exact viaOp (base := fun _ => false) (by simp [evOp, ho, hdst, putD, hd, h])
  · rename_i ho; exact viaOp (base := fun _ => false) (by simp [evOp, ho, hdst, putD, hd, h])
  · rename_i x i ho
    split at h
    · rename_i vs hx
      simp only [Option.map_eq_some_iff] at h
      obtain ⟨u, hu, rfl⟩ := h
      refine OpA.pure hdst hd fun a w G hR => ?_
      obtain ⟨r, hvr⟩ := hR.ev x
      rw [hx] at hvr
      obtain ⟨ws, hws, htr⟩ := VR_tup hvr
      obtain ⟨y, r1, ri, r2, hy, _, hvy, _⟩ := htr.split hu
      exact ⟨y, by simp [execOp, ho, Instr.extract, hws, hy], VR_of_VR0 hvy.view⟩
    · cases h
  · rename_i c ho
    split at h
    · rename_i b hc
      refine viaOp (base := fun _ => false) ?_
      simp only [evOp, ho, hc, hdst, withD, hd, if_true]
      unfold lightB at h
      unfold evBuiltin
      split at h
      · rename_i h1 h2; simp [h1, h2, evLen_st h]
      · rename_i h2; simp [h2, h]
      · rename_i h2; simp [h2, h]
      · cases h
    · cases h
  · cases h

end
end Go.AL
