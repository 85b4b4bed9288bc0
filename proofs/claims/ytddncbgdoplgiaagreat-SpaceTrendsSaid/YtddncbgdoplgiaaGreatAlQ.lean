import Derived.Test.YtddncbgdoplgiaaGreatAlP
namespace Go.AL
open Go.RowKit

section
variable {P : Program} {C : Ctx} {S : AS} {a : Act} {w w' : World} {G : Gh} {ρ : List Nat} {K : Nat → Nat}

/-! ### functions -/
/-- the state of a list of values -/
def AS.args (vs : List V) (st : List Ob) : AS := { n := vs.length, s := fun j => vs.getD j .dead, st := st }

/-- called with these arguments and objects, function f answers as Q says -/
def FnA (P : Program) (f : FuncId) (args : List V) (st : List Ob) (Q : V → List Ob → Prop) : Prop :=
  ∀ (C : Ctx) (xs : Array Value) (G : Gh), C.ρ0 = G.ρ → C.K0 = G.K → Rel C (AS.args args st) { tmps := xs, defers := [] } C.w0 G →
    Calls P f xs C.w0 fun e w' => ∃ x v st' G', e = .returned x ∧ Q v st' ∧ Rel C (AS.args [v] st') { tmps := #[x], defers := [] } w' G'

theorem FnA.mono {f : FuncId} {args : List V} {st : List Ob} {Q Q' : V → List Ob → Prop} (h : FnA P f args st Q) (hq : ∀ v st', Q v st' → Q' v st') : FnA P f args st Q' :=
  fun C xs G h1 h2 hR => (h C xs G h1 h2 hR).mono fun _ _ ⟨x, v, st', G', h3, h4, h5⟩ => ⟨x, v, st', G', h3, hq _ _ h4, h5⟩

/-- the state a function begins with -/
def AS.enter (n : Nat) (vs : List V) (st : List Ob) : AS := { n := n, s := fun j => vs.getD j (.tup []), st := st }

theorem getD_append_undef {xs : Array Value} {n j : Nat} : (xs ++ Array.replicate n undef).getD j undef = xs.getD j undef := by
  simp only [Array.getD_eq_getD_getElem?, Array.getElem?_append]
  by_cases hj : j < xs.size
  · simp [hj]
  · rw [if_neg hj, Array.getElem?_replicate, Array.getElem?_eq_none (xs := xs) (by omega)]
    split <;> rfl

theorem Rel.enter {vs : List V} {st : List Ob} {xs : Array Value} {n : Nat} (hR : Rel C (AS.args vs st) { tmps := xs, defers := [] } w G) (hn : vs.length ≤ n) :
    Rel C (AS.enter n vs st) { tmps := xs ++ Array.replicate (n - xs.size) undef, defers := [] } w G := by
  have hsz : xs.size = vs.length := hR.tsz
  refine { hR with tsz := ?_, slots := fun j => ?_ }
  · simp [AS.enter, hsz]; omega
  · have h := hR.slots j
    simp only [AS.args, AS.enter] at h ⊢
    rw [getD_append_undef]
    rcases Nat.lt_or_ge j vs.length with hj | hj
    · simp only [List.getD, List.getElem?_eq_getElem hj, Option.getD_some] at h ⊢
      exact h
    · have e1 : vs.getD j .dead = .dead := by simp [List.getD, hj]
      have e2 : vs.getD j (.tup []) = .tup [] := by simp [List.getD, hj]
      rw [e1] at h
      rw [e2, VR.dead_rows h]
      have : xs.getD j undef = undef := by simp [Array.getD_eq_getD_getElem?, hsz, hj]
      rw [this]
      exact ⟨[], rfl, rfl⟩

/-- what is left of a frame: one slot -/
theorem Rel.only (hR : Rel C S a w G) (t : Nat) : Rel C (AS.args [S.s t] S.st) { tmps := #[a.tmps.getD t undef], defers := [] } w
    { G with R := fun j => if j = 0 then G.R t else [], ow := fun b => match G.ow b with | some (.slot j) => if j = t then some (.slot 0) else none | l => l } := by
  refine { hR with defs := rfl, tsz := ?_, slots := fun j => ?_, slotsOw := fun j b hb => ?_, slotsNd := fun j => ?_, obsOw := fun i b hb => ?_, ρOw := fun i b hb => ?_, ows := fun b l hb => ?_ }
  · rfl
  · cases j with
    | zero => simpa [AS.args] using hR.slots t
    | succ j => simp [AS.args]; rfl
  · cases j with
    | zero =>
      simp only [if_true] at hb
      simp [hR.slotsOw t b hb]
    | succ j => simp at hb
  · cases j with
    | zero => simpa using hR.slotsNd t
    | succ j => simp
  · simp [hR.obsOw i b hb]
  · have := hR.ρOw i b hb
    simp [this.1, this.2]
  · simp only at hb
    split at hb
    · rename_i j hj
      exact hR.ows b _ hj
    · exact hR.ows b _ hb

/-- what is left of a frame: several slots, each with what it owns -/
theorem TR_slots (hR : Rel C S a w G) (ts : List Nat) : TR G.ρ G.K w (ts.map S.s) (ts.map fun t => a.tmps.getD t undef) (ts.flatMap G.R) ∨ ∃ t ∈ ts, S.s t = .dead ∨ ∃ vs, S.s t = .tup vs := by
  induction ts with
  | nil => exact .inl rfl
  | cons t ts ih =>
    rcases ih with ih | ⟨u, hu, h⟩
    · have h := hR.slots t
      generalize hv : S.s t = v at *
      revert h
      refine VR.cases (P := fun v => VR G.ρ G.K w v (a.tmps.getD t undef) (G.R t) → S.s t = v → _) v (fun _ h => .inr ⟨t, by simp, .inl h⟩) (fun vs _ h => .inr ⟨t, by simp, .inr ⟨vs, h⟩⟩) (fun v h0 h hv => ?_) |> fun f h => f h hv
      rw [h0] at h
      exact .inl ⟨_, _, rfl, hv ▸ h, ih⟩
    · exact .inr ⟨u, by simp [hu], h⟩

theorem Rel.onlyTup (hR : Rel C S a w G) (ts : List Nat) (hnd : ts.Nodup) (hok : ∀ t ∈ ts, S.s t ≠ .dead ∧ ∀ vs, S.s t ≠ .tup vs) :
    ∃ G', Rel C (AS.args [.tup (ts.map S.s)] S.st) { tmps := #[.tuple (ts.map fun t => a.tmps.getD t undef).toArray], defers := [] } w G' := by
  have htr : TR G.ρ G.K w (ts.map S.s) (ts.map fun t => a.tmps.getD t undef) (ts.flatMap G.R) := by
    rcases TR_slots hR ts with h | ⟨t, ht, h⟩
    · exact h
    · rcases h with h | ⟨vs, h⟩
      · exact absurd h (hok t ht).1
      · exact absurd h ((hok t ht).2 vs)
  refine ⟨{ G with R := fun j => if j = 0 then ts.flatMap G.R else [], ow := fun b => match G.ow b with | some (.slot j) => if j ∈ ts then some (.slot 0) else none | l => l }, ?_⟩
  refine { hR with defs := rfl, tsz := ?_, slots := fun j => ?_, slotsOw := fun j b hb => ?_, slotsNd := fun j => ?_, obsOw := fun i b hb => ?_, ρOw := fun i b hb => ?_, ows := fun b l hb => ?_ }
  · rfl
  · cases j with
    | zero => exact ⟨ts.map fun t => a.tmps.getD t undef, rfl, htr⟩
    | succ j => simp [AS.args]; rfl
  · cases j with
    | zero =>
      simp only [if_true, List.mem_flatMap] at hb
      obtain ⟨t, ht, hb⟩ := hb
      simp [hR.slotsOw t b hb, ht]
    | succ j => simp at hb
  · cases j with
    | zero =>
      simp only [if_true]
      clear htr hok
      induction ts with
      | nil => simp
      | cons t ts ih =>
        simp only [List.flatMap_cons, List.nodup_append]
        rw [List.nodup_cons] at hnd
        refine ⟨hR.slotsNd t, ih hnd.2, fun x hx y hy e => ?_⟩
        subst e
        simp only [List.mem_flatMap] at hy
        obtain ⟨u, hu, hy⟩ := hy
        have h1 := hR.slotsOw t x hx
        rw [hR.slotsOw u x hy] at h1
        injection h1 with h1; injection h1 with h1
        subst h1
        exact hnd.1 hu
    | succ j => simp
  · simp [hR.obsOw i b hb]
  · have := hR.ρOw i b hb
    simp [this.1, this.2]
  · simp only at hb
    split at hb
    · rename_i j hj
      exact hR.ows b _ hj
    · exact hR.ows b _ hb

/-- what a function answers -/
def resOne (P : Program) (S : AS) : ResultVar → Option V
  | .tmp t => some (S.s t)
  | .cell t ty => match S.s t with
    | .ptr o off p => evLoad P ty S (.ptr o off p)
    | _ => none

def resTmps : List ResultVar → List Nat
  | [] => []
  | .tmp t :: rs => t :: resTmps rs
  | _ :: rs => resTmps rs

def V.plain : V → Bool
  | .dead | .tup _ => false
  | _ => true

def resA (P : Program) (S : AS) : List ResultVar → Option V
  | [r] => resOne P S r
  | rs => (rs.mapM (resOne P S)).bind fun vs => if (resTmps rs).Nodup ∧ vs.all V.plain = true then some (.tup vs) else none

theorem Rel.onlyRes (hR : Rel C S a w G) {v : V} {x : Value} {r : List Nat} (hv : VR G.ρ G.K w v x r) (hnd : r.Nodup) (hsub : ∀ b ∈ r, ∃ j, b ∈ G.R j) :
    ∃ G', Rel C (AS.args [v] S.st) { tmps := #[x], defers := [] } w G' := by
  refine ⟨{ G with R := fun j => if j = 0 then r else [], ow := fun b => match G.ow b with | some (.slot _) => if b ∈ r then some (.slot 0) else none | l => l }, ?_⟩
  refine { hR with defs := rfl, tsz := ?_, slots := fun j => ?_, slotsOw := fun j b hb => ?_, slotsNd := fun j => ?_, obsOw := fun i b hb => ?_, ρOw := fun i b hb => ?_, ows := fun b l hb => ?_ }
  · rfl
  · cases j with
    | zero => exact hv
    | succ j => simp [AS.args]; rfl
  · cases j with
    | zero =>
      simp only [if_true] at hb
      obtain ⟨j, hj⟩ := hsub b hb
      simp [hR.slotsOw j b hj, hb]
    | succ j => simp at hb
  · cases j with
    | zero => simpa using hnd
    | succ j => simp
  · simp [hR.obsOw i b hb]
  · have := hR.ρOw i b hb
    simp [this.1, this.2]
  · simp only at hb
    split at hb
    · rename_i j hj; exact hR.ows b _ hj
    · exact hR.ows b _ hb

theorem VR_plain {ρ : List Nat} {K : Nat → Nat} {v : V} {x : Value} {r : List Nat} (hp : v.plain = true) (h : VR ρ K w v x r) : VR0 ρ K w v x r := by
  revert h hp
  refine VR.cases (P := fun v => v.plain = true → VR ρ K w v x r → VR0 ρ K w v x r) v (fun h => by cases h) (fun vs h => by cases h) (fun v hv _ h => by rw [hv] at h; exact h)

/-- one result -/
theorem resOne_run (hR : Rel C S a w G) {f : ResultVar → Sem Value} (hf1 : ∀ t, f (.tmp t) = pure (a.tmps.getD t undef)) (hf2 : ∀ t ty, f (.cell t ty) = do loadVar ty (← asAddr (a.tmps.getD t undef)))
    {r : ResultVar} {v : V} (h : resOne P S r = some v) : ∃ x, (f r).run P w = .ok x w ∧ VR G.ρ G.K w v x (match r with | .tmp t => G.R t | .cell _ _ => []) := by
  cases r with
  | tmp t =>
    simp only [resOne, Option.some.injEq] at h
    subst h
    exact ⟨_, by rw [hf1]; rfl, hR.slots t⟩
  | cell t ty =>
    simp only [resOne] at h
    split at h
    · rename_i o off p hp
      have hs := hR.slots t
      rw [hp] at hs
      obtain ⟨b, hb, hx, _⟩ := VR_ptr hs
      obtain ⟨z, h1, h2⟩ := evLoad_run (P := P) hR hs h
      refine ⟨z, ?_, h2⟩
      rw [hf2, hx]
      rw [hx] at h1
      simpa [Instr.loadAt, Instr.sureAddr, asAddr] using h1
    · cases h

theorem resAll_run (hR : Rel C S a w G) {f : ResultVar → Sem Value} (hf1 : ∀ t, f (.tmp t) = pure (a.tmps.getD t undef)) (hf2 : ∀ t ty, f (.cell t ty) = do loadVar ty (← asAddr (a.tmps.getD t undef))) :
    ∀ (rs : List ResultVar) (vs : List V), rs.mapM (resOne P S) = some vs → vs.all V.plain = true → ∃ xs, (rs.mapM f).run P w = .ok xs w ∧ xs.length = rs.length ∧ TR G.ρ G.K w vs xs ((resTmps rs).flatMap G.R)
  | [], vs, h, _ => by simp at h; subst h; exact ⟨[], rfl, rfl, rfl⟩
  | r :: rs, vs, h, hp => by
    simp only [List.mapM_cons, Option.bind_eq_bind, Option.pure_def, Option.bind_eq_some_iff] at h
    obtain ⟨v, hv, us, hu, h⟩ := h
    injection h with h; subst h
    simp only [List.all_cons, Bool.and_eq_true] at hp
    obtain ⟨x, hx, hvr⟩ := resOne_run (P := P) hR hf1 hf2 hv
    obtain ⟨xs, hxs, hl, htr⟩ := resAll_run hR hf1 hf2 rs us hu hp.2
    refine ⟨x :: xs, by simp [List.mapM_cons, hx, hxs], by simp [hl], ?_⟩
    cases r with
    | tmp t => exact ⟨_, _, by simp [resTmps], VR_plain hp.1 hvr, htr⟩
    | cell t ty => exact ⟨[], _, by simp [resTmps], VR_plain hp.1 hvr, htr⟩

theorem flatMap_nd (hR : Rel C S a w G) : ∀ (ts : List Nat), ts.Nodup → (ts.flatMap G.R).Nodup
  | [], _ => by simp
  | t :: ts, hnd => by
    simp only [List.flatMap_cons, List.nodup_append]
    rw [List.nodup_cons] at hnd
    refine ⟨hR.slotsNd t, flatMap_nd hR ts hnd.2, fun x hx y hy e => ?_⟩
    subst e
    simp only [List.mem_flatMap] at hy
    obtain ⟨u, hu, hy⟩ := hy
    have h1 := hR.slotsOw t x hx
    rw [hR.slotsOw u x hy] at h1
    injection h1 with h1; injection h1 with h1
    subst h1
    exact hnd.1 hu

/-- how a result is read -/
def resF (tmps : Array Value) : ResultVar → Sem Value
  | .tmp t => pure (tmps.getD t undef)
  | .cell a t => do loadVar t (← asAddr (tmps.getD a undef))

theorem results_run {fn : Func} {tmps : Array Value} {rs : List ResultVar} (hrs : fn.results.toList = rs) {xs : List Value} (h : (rs.mapM (resF tmps)).run P w = .ok xs w) :
    (results fn tmps).run P w = .ok (if h : xs.toArray.size = 1 then xs.toArray[0] else .tuple xs.toArray) w := by
  have h1 : fn.results = rs.toArray := by rw [← Array.toList_inj]; simp [hrs]
  unfold results
  rw [h1, List.mapM_toArray]
  change Sem.run P (do
    let vs ← List.toArray <$> List.mapM (resF tmps) rs
    pure (if h : vs.size = 1 then vs[0] else .tuple vs)) w = _
  simp [h]

theorem Rel.result (hR : Rel C S a w G) {fn : Func} {v : V} (h : resA P S fn.results.toList = some v) :
    ∃ x G', (results fn a.tmps).run P w = .ok x w ∧ Rel C (AS.args [v] S.st) { tmps := #[x], defers := [] } w G' := by
  unfold resA at h
  split at h
  · rename_i r hr
    obtain ⟨x, hx, hv⟩ := resOne_run (P := P) (f := resF a.tmps) hR (fun _ => rfl) (fun _ _ => rfl) h
    obtain ⟨G', hR'⟩ := hR.onlyRes hv (by cases r <;> simp [hR.slotsNd]) (fun b hb => by
      cases r with
      | tmp t => exact ⟨t, hb⟩
      | cell t ty => simp at hb)
    refine ⟨x, G', ?_, hR'⟩
    have := results_run (P := P) (w := w) (tmps := a.tmps) (xs := [x]) hr (by simp [List.mapM_cons, hx])
    rw [this]; simp
  · rename_i hne
    simp only [Option.bind_eq_some_iff] at h
    obtain ⟨vs, hvs, h⟩ := h
    split at h
    · rename_i hc
      injection h with h; subst h
      obtain ⟨xs, hxs, hl, htr⟩ := resAll_run (P := P) (f := resF a.tmps) hR (fun _ => rfl) (fun _ _ => rfl) _ _ hvs hc.2
      obtain ⟨G', hR'⟩ := hR.onlyRes (v := .tup vs) (x := .tuple xs.toArray) ⟨xs, rfl, htr⟩ (flatMap_nd hR _ hc.1) (fun b hb => by
        simp only [List.mem_flatMap] at hb
        obtain ⟨t, _, hb⟩ := hb
        exact ⟨t, hb⟩)
      refine ⟨_, G', ?_, hR'⟩
      rw [results_run (P := P) rfl hxs]
      have hlen : xs.length ≠ 1 := fun e => by
        rw [hl] at e
        generalize fn.results.toList = rs at *
        match rs, e with
        | [r], _ => exact hne r rfl
      rw [dif_neg (by simpa using hlen)]
    · cases h

def bodyE (P : Program) (fn : Func) (Q : V → List Ob → Prop) : Exit → AS → Prop
  | .normal, S | .ret, S => optK (resA P S fn.results.toList) fun v => Q v S.st
  | _, _ => False

/-- a function by its body -/
theorem FnA.of_W {f : FuncId} {fn : Func} {c : Code} {args : List V} {st : List Ob} {Q : V → List Ob → Prop} (hf : P.funcs[f]? = some fn) (hb : fn.body = some c) (hn : args.length ≤ fn.ntmps)
    (h : ∀ C, W P C c (AS.enter fn.ntmps args st) (bodyE P fn Q)) : FnA P f args st Q := by
  intro C xs G _ _ hR
  refine calls_of_wp hf hb (Code.wp_mono (fun e a' w' ⟨S', G', hq, hR'⟩ => ?_) (h C _ _ G (hR.enter hn)))
  have key : (e = .normal ∨ e = .ret) → bodyPost P fn (fun e w' => ∃ x v st' G', e = .returned x ∧ Q v st' ∧ Rel C (AS.args [v] st') { tmps := #[x], defers := [] } w' G') e a' w' := by
    intro he
    have hq' : optK (resA P S' fn.results.toList) fun v => Q v S'.st := by rcases he with rfl | rfl <;> exact hq
    unfold optK at hq'
    split at hq'
    · rename_i v hv
      obtain ⟨x, G'', hrun, hR''⟩ := hR'.result (P := P) hv
      rcases he with rfl | rfl <;> exact ⟨hR'.defs, x, hrun, x, v, S'.st, G'', rfl, hq', hR''⟩
    · exact hq'.elim
  cases e with
  | normal => exact key (.inl rfl)
  | ret => exact key (.inr rfl)
  | _ => exact hq.elim

end
end Go.AL
