import Derived.Test.YtddncbgdoplgiaaGreatAlM
namespace Go.AL
open Go.RowKit

section
variable {P : Program} {C : Ctx} {S : AS} {a : Act} {w w' : World} {G : Gh} {ρ : List Nat} {K : Nat → Nat}

/-! ### parts of tuples -/
theorem TR.split {vs : List V} {ws : List Value} {r : List Nat} (h : TR ρ K w vs ws r) {i : Nat} {v : V} (hv : vs[i]? = some v) :
    ∃ x r1 ri r2, ws[i]? = some x ∧ r = r1 ++ (ri ++ r2) ∧ VR0 ρ K w v x ri ∧ TR ρ K w (vs.set i v.view) ws (r1 ++ r2) := by
  induction vs generalizing ws r i with
  | nil => simp at hv
  | cons u vs ih =>
    cases ws with
    | nil => simp [TR] at h
    | cons x ws =>
      obtain ⟨q1, q2, rfl, h1, h2⟩ := h
      cases i with
      | zero =>
        simp at hv; subst hv
        exact ⟨x, [], q1, q2, rfl, rfl, h1, [], q2, rfl, h1.view, h2⟩
      | succ i =>
        obtain ⟨y, r1, ri, r2, g1, rfl, g3, g4⟩ := ih h2 (by simpa using hv)
        exact ⟨y, q1 ++ r1, ri, r2, by simpa using g1, by simp, g3, q1, r1 ++ r2, by simp, h1, g4⟩

/-- a part of a tuple, with what it owns -/
theorem Rel.giveTup (h : Rel C S a w G) {d t i : Nat} (hd : d < S.n) {vs : List V} (ht : S.s t = .tup vs) {v : V} (hv : vs[i]? = some v) :
    ∃ x G', (∃ ws : List Value, a.tmps.getD t undef = .tuple ws.toArray ∧ ws[i]? = some x) ∧ Rel C { S with s := upd (upd S.s t (.tup (vs.set i v.view))) d v } (a.put (some d) x) w G' := by
  have hs := h.slots t
  rw [ht] at hs
  obtain ⟨ws, hws, htr⟩ := VR_tup hs
  obtain ⟨x, r1, ri, r2, hx, hr, hvx, htr'⟩ := htr.split hv
  have hmem : ∀ b, b ∈ G.R t ↔ b ∈ r1 ∨ b ∈ ri ∨ b ∈ r2 := fun b => by rw [hr]; simp
  have hnd := h.slotsNd t
  rw [hr] at hnd
  simp only [List.nodup_append, List.mem_append] at hnd
  refine ⟨x, { G with R := fun j => if j = d then ri else if j = t then r1 ++ r2 else G.R j, ow := fun b => if b ∈ ri then some (.slot d) else G.ow b }, ⟨ws, hws, hx⟩, ?_⟩
  refine { h with tsz := ?_, slots := fun j => ?_, slotsOw := fun j b hb => ?_, slotsNd := fun j => ?_, obsOw := fun k b hb => ?_, ρOw := fun k b hb => ?_, ows := fun b l hb => ?_ }
  · simp [Act.put, h.tsz]
  · simp only [Act.put, upd]
    rw [getD_setIfInBounds (by rw [h.tsz]; exact hd)]
    by_cases hj : j = d
    · simp only [hj, if_true]; exact VR_of_VR0 hvx
    · simp only [hj, if_false]
      by_cases hj' : j = t
      · simp only [hj', if_true]; exact ⟨ws, hws, htr'⟩
      · simp only [hj', if_false]; exact h.slots j
  · by_cases hj : j = d
    · simp only [hj, if_true] at hb; simp [hb, hj]
    · simp only [hj, if_false] at hb
      by_cases hj' : j = t
      · simp only [hj', if_true, List.mem_append] at hb
        have hbt : b ∈ G.R t := (hmem b).2 (by rcases hb with hb | hb <;> simp [hb])
        have hni : b ∉ ri := fun hbi => by
          rcases hb with hb | hb
          · exact hnd.2.2 b hb b (.inl hbi) rfl
          · exact hnd.2.1.2.2 b hbi b hb rfl
        simp only [hni, if_false, hj']; exact h.slotsOw t b hbt
      · simp only [hj', if_false] at hb
        have h1 := h.slotsOw j b hb
        have : b ∉ ri := fun hbi => by
          rw [h.slotsOw t b ((hmem b).2 (.inr (.inl hbi)))] at h1; injection h1 with h1; injection h1 with h1; exact hj' h1.symm
        simp [this, h1]
  · by_cases hj : j = d
    · simp only [hj, if_true]; exact hnd.2.1.1
    · simp only [hj, if_false]
      by_cases hj' : j = t
      · simp only [hj', if_true, List.nodup_append]
        exact ⟨hnd.1, hnd.2.1.2.1, fun x hx y hy => hnd.2.2 x hx y (.inr hy)⟩
      · simp only [hj', if_false]; exact h.slotsNd j
  · have h1 := h.obsOw k b hb
    have : b ∉ ri := fun hbi => by rw [h.slotsOw t b ((hmem b).2 (.inr (.inl hbi)))] at h1; injection h1 with h1; cases h1
    simp [this, h1]
  · have h1 := h.ρOw k b hb
    have : b ∉ ri := fun hbi => by rw [h.slotsOw t b ((hmem b).2 (.inr (.inl hbi)))] at h1; have := h1.1; injection this with this; cases this
    simp [this, h1]
  · by_cases hbi : b ∈ ri
    · exact h.ows b _ (h.slotsOw t b ((hmem b).2 (.inr (.inl hbi))))
    · simp only [hbi, if_false] at hb; exact h.ows b l hb

/-! ### moving -/
def evMove (S : AS) (d : Nat) (x : Operand) : Option AS := some (S.put d (S.ev x).view)
/-- moving with what is owned -/
def evGive (S : AS) (d : Nat) (x : Operand) : Option AS :=
  if (S.ev x).owns then
    match x with
    | .tmp t => some { S with s := upd (upd S.s t (S.s t).view) d (S.s t) }
    | _ => some (S.put d (S.ev x))
  else some (S.put d (S.ev x))

theorem evMove_sound {o : Oper} {d : Nat} {x : Operand} {S' : AS} (ho : o.op = .move x) (hdst : o.dst = some d) (hd : d < S.n) (h : evMove S d x = some S') : OpA P C o S (· = S') := by
  injection h with h; subst h
  refine OpA.pure hdst hd fun a w G hR => ?_
  obtain ⟨r, hv⟩ := hR.ev x
  exact ⟨a.eval x, by simp [execOp, ho], hv.view⟩

theorem evGive_sound {o : Oper} {d : Nat} {x : Operand} {S' : AS} (ho : o.op = .assign x ∨ o.op = .move x) (hdst : o.dst = some d) (hd : d < S.n) (h : evGive S d x = some S') : OpA P C o S (· = S') := by
  have hrun : ∀ (a : Act) (w : World), (execOp a.eval o).run P w = .ok (.value (a.eval x)) w := fun a w => by rcases ho with ho | ho <;> simp [execOp, ho]
  unfold evGive at h
  split at h
  · split at h
    · rename_i t _
      injection h with h; subst h
      intro a w G next Q hR hn
      unfold Oper.wp
      rw [hrun, Oper.upon_value, hdst]
      exact hn _ _ _ _ rfl (hR.give hd)
    · rename_i hnt
      injection h with h; subst h
      refine OpA.pure hdst hd fun a w G hR => ⟨a.eval x, hrun a w, const_rows hR x fun t e => hnt t e⟩
  · rename_i hown
    injection h with h; subst h
    refine OpA.pure hdst hd fun a w G hR => ?_
    obtain ⟨r, hv⟩ := hR.ev x
    have := hv.owns_rows (by simpa using hown)
    subst this
    exact ⟨a.eval x, hrun a w, hv⟩

/-! ### the rest of the pure ones -/
def evExtract (S : AS) (d : Nat) (x : Operand) (i : Nat) : Option AS :=
  match S.ev x with
  | .tup vs => (vs[i]?).bind fun v =>
    if v.owns then
      match x with
      | .tmp t => some { S with s := upd (upd S.s t (.tup (vs.set i v.view))) d v }
      | _ => none
    else some (S.put d v)
  | _ => none

theorem evExtract_sound {o : Oper} {d i : Nat} {x : Operand} {S' : AS} (ho : o.op = .extract x i) (hdst : o.dst = some d) (hd : d < S.n) (h : evExtract S d x i = some S') : OpA P C o S (· = S') := by
  unfold evExtract at h
  split at h
  · rename_i vs hx
    simp only [Option.bind_eq_some_iff] at h
    obtain ⟨v, hv, h⟩ := h
    split at h
    · split at h
      · rename_i t
        injection h with h; subst h
        intro a w G next Q hR hn
        obtain ⟨y, G', ⟨ws, hws, hy⟩, hR'⟩ := hR.giveTup (d := d) hd (show S.s t = .tup vs from hx) hv
        unfold Oper.wp
        have : (execOp a.eval o).run P w = .ok (.value y) w := by
          have : a.eval (.tmp t) = .tuple ws.toArray := hws
          simp [execOp, ho, Instr.extract, this, hy]
        rw [this, Oper.upon_value, hdst]
        exact hn _ _ _ _ rfl hR'
      · cases h
    · rename_i hown
      injection h with h; subst h
      refine OpA.pure hdst hd fun a w G hR => ?_
      obtain ⟨r, hvr⟩ := hR.ev x
      rw [hx] at hvr
      obtain ⟨ws, hws, htr⟩ := VR_tup hvr
      obtain ⟨y, r1, ri, r2, hy, _, hvy, _⟩ := htr.split hv
      have := hvy.owns_rows (by simpa using hown)
      subst this
      exact ⟨y, by simp [execOp, ho, Instr.extract, hws, hy], VR_of_VR0 hvy⟩
  · cases h

def evNilCheck : V → Option V
  | .ptr o off p => some (.ptr o off p)
  | .elem v => some (.elem v)
  | _ => none

def evLen (P : Program) (t : TypeId) (S : AS) (v : V) : Option V :=
  match v with
  | .str s => if isStrT P t then some (.int .i64 s.length) else none
  | .list xs | .own _ _ xs => if (slcS P t).isSome then some (.int .i64 xs.length) else none
  | .bsl _ _ _ _ n => if (slcS P t).isSome then some (.int .i64 n) else none
  | .arr _ _ _ => (arrS P t).map fun a => .int .i64 a.1
  | .mp o => match S.st[o]?, P.underlying t with
    | some (.map es), some (.map _ _) => some (.int .i64 es.length)
    | _, _ => none
  | _ => none

theorem evLen_run {t ty : TypeId} (hR : Rel C S a w G) {u v : V} {x : Value} {r : List Nat} (hx : VR G.ρ G.K w u x r) (h : evLen P t S u = some v) :
    ∃ z, (Builtin.len_ #[t] ty #[x]).run P w = .ok z w ∧ VR G.ρ G.K w v z [] := by
  have slice : ∀ xs, u.elems? = some xs → (slcS P t).isSome = true → v = .int .i64 xs.length → ∃ z, (Builtin.len_ #[t] ty #[x]).run P w = .ok z w ∧ VR G.ρ G.K w v z [] := by
    rintro xs hu ht rfl
    obtain ⟨e, he⟩ := Option.isSome_iff_exists.1 ht
    have := slcS_spec he
    rcases VR_slice hu hx with ⟨a, c, rfl, rfl⟩ | ⟨b, off, c, k, vs, rfl, _⟩
    · exact ⟨.int .i64 0, by simp [Builtin.len_, run_underlying this, goInt], by simpa using VR_mkInt (ρ := G.ρ) (K := G.K) (w := w) .i64 0⟩
    · exact ⟨.int .i64 xs.length, by simp [Builtin.len_, run_underlying this, goInt], VR_mkInt _ _⟩
  unfold evLen at h
  split at h
  · rename_i s
    obtain ⟨rfl, hr⟩ := VR_str hx
    clear hr
    split at h
    · rename_i ht
      injection h with h; subst h
      have hsz : (ByteArray.mk s.toArray).size = s.length := by simp [ByteArray.size]
      exact ⟨.int .i64 s.length, by simp only [Builtin.len_]; simp [run_underlying (isStrT_spec ht), goInt, hsz], VR_mkInt _ _⟩
    · cases h
  · split at h
    · injection h with h; exact slice _ rfl (by assumption) h.symm
    · cases h
  · split at h
    · injection h with h; exact slice _ rfl (by assumption) h.symm
    · cases h
  · split at h
    · rename_i ht
      injection h with h; subst h
      obtain ⟨e, he⟩ := Option.isSome_iff_exists.1 ht
      obtain ⟨b, c, _, _, rfl, _⟩ := VR_bsl hx
      exact ⟨_, by simp [Builtin.len_, run_underlying (slcS_spec he), goInt], VR_mkInt _ _⟩
    · cases h
  · simp only [Option.map_eq_some_iff] at h
    obtain ⟨q, hq, rfl⟩ := h
    have := arrS_spec (n := q.1) (e := q.2) hq
    exact ⟨_, by simp [Builtin.len_, run_underlying this, goInt], VR_mkInt _ _⟩
  · rename_i o
    split at h
    · rename_i es k e hst hu
      injection h with h; subst h
      obtain ⟨b, hb, rfl, _⟩ := VR_mp hx
      obtain ⟨_, ents, clock, hheap, hl, _⟩ := hR.obs o (.map es) b hst hb
      refine ⟨.int .i64 es.length, ?_, VR_mkInt _ _⟩
      have hg : (getObj b).run P w = .ok (.map ents clock) w := by simp [getObj, Sem.run, hheap]
      simp [Builtin.len_, run_underlying hu, hg, goInt, hl]
    · cases h
  · cases h

def evMinMax (mx : Bool) (v u : V) : Option V :=
  match v, u with
  | .int k x, .int _ y => some (.int k (if mx then max x y else min x y))
  | _, _ => none

theorem evMinMax_run {mx : Bool} {t ty : Array TypeId} {ty' : TypeId} {u v r : V} {x y : Value} {rx ry : List Nat} (h : evMinMax mx u v = some r) (hx : VR ρ K w u x rx) (hy : VR ρ K w v y ry) :
    ∃ z, (if mx then (Builtin.max_ t ty' #[x, y]).run P w else (Builtin.min_ ty ty' #[x, y]).run P w) = .ok z w ∧ VR ρ K w r z [] := by
  unfold evMinMax at h
  split at h
  · injection h with h; subst h
    obtain ⟨rfl, _⟩ := VR_int hx
    obtain ⟨rfl, _⟩ := VR_int hy
    rename_i k p k' q
    refine ⟨_, ?_, VR_mkInt _ _⟩
    cases mx
    · simp only [Bool.false_eq_true, if_false, Builtin.min_]
      simp [Builtin.min2]
      omega
    · simp only [if_true, Builtin.max_]
      simp [Builtin.max2]
      omega
  · cases h

end
end Go.AL
