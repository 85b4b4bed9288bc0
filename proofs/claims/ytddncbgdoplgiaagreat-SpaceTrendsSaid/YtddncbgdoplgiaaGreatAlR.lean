import Derived.Test.YtddncbgdoplgiaaGreatAlQ
namespace Go.AL
open Go.RowKit

section
variable {P : Program} {C : Ctx} {S : AS} {a : Act} {w w' : World} {G : Gh} {ρ : List Nat} {K : Nat → Nat}

/-! ### calls -/
/-- what a callee may not touch -/
def Ctx.sub (C : Ctx) (w : World) (G : Gh) : Ctx :=
  { w0 := w, K0 := G.K, prot := fun b => b < w.heap.size ∧ (C.prot b ∨ ∃ j, b ∈ G.R j), ρ0 := G.ρ }

def Gh.sub (G : Gh) : Gh := { G with R := fun _ => [], ow := fun b => match G.ow b with | some (.slot _) => none | l => l }

theorem Rel.sub (hR : Rel C S a w G) {vs : List V} {xs : List Value} (hlen : xs.length = vs.length) (hvs : ∀ (j : Nat) (v : V), vs[j]? = some v → VR G.ρ G.K w v (xs.getD j undef) []) :
    Rel (C.sub w G) (AS.args vs S.st) { tmps := xs.toArray, defers := [] } w G.sub := by
  refine { hR with defs := rfl, tsz := ?_, slots := fun j => ?_, slotsOw := fun j b hb => ?_, slotsNd := fun j => ?_, obsOw := fun i b hb => ?_, ρOw := fun i b hb => ?_, ows := fun b l hb => ?_, prot := fun b hb => ?_, stab := ?_, mono := ?_, size := ?_, os := rfl, tape := rfl, output := rfl, ρ0 := ?_ }
  · simp [AS.args, hlen]
  · simp only [AS.args, Gh.sub]
    rcases Nat.lt_or_ge j vs.length with hj | hj
    · have := hvs j vs[j] (List.getElem?_eq_getElem hj)
      simpa [List.getD, Array.getD_eq_getD_getElem?, hj] using this
    · have e1 : vs.getD j .dead = .dead := by simp [List.getD, hj]
      rw [e1]; rfl
  · simp [Gh.sub] at hb
  · simp [Gh.sub]
  · simp [Gh.sub, hR.obsOw i b hb]
  · have := hR.ρOw i b hb; simp [Gh.sub, this.1, this.2]
  · simp only [Gh.sub] at hb
    split at hb
    · cases hb
    · rename_i hns
      refine ⟨(hR.ows b l hb).1, fun hp => ?_⟩
      rcases hp.2 with hp | ⟨j, hj⟩
      · exact (hR.ows b l hb).2 hp
      · exact hns j (hR.slotsOw j b hj)
  · exact ⟨hb.1, rfl, rfl⟩
  · intro _ _ _; rfl
  · intro _; exact Nat.le_refl _
  · exact Nat.le_refl _
  · exact List.prefix_refl _

def putO (S : AS) (dst : Option Nat) (v : V) : AS := match dst with | some d => S.put d v | none => S

theorem Rel.back (hR : Rel C S a w G) {v : V} {x : Value} {st' : List Ob} {G' : Gh} (h : Rel (C.sub w G) (AS.args [v] st') { tmps := #[x], defers := [] } w' G') {dst : Option Nat} (hd : ∀ d, dst = some d → d < S.n) :
    ∃ G'', Rel C (putO { S with st := st' } dst v) (a.put dst x) w' G'' := by
  have hρ : ∀ (i b : Nat), G.ρ[i]? = some b → G'.ρ[i]? = some b := fun i b hi => by
    obtain ⟨l, hl⟩ := h.ρ0
    rw [← hl]
    show (G.ρ ++ l)[i]? = some b
    rw [List.getElem?_append_left (List.getElem?_eq_some_iff.1 hi).1]; exact hi
  have hst : ∀ b off, off < G.K b → w'.cell? ⟨b, off, none⟩ = w.cell? ⟨b, off, none⟩ := h.stab
  have hK : ∀ b, G.K b ≤ G'.K b := h.mono
  have hprot : ∀ b, b < w.heap.size → (C.prot b ∨ ∃ j, b ∈ G.R j) → w'.heap[b]? = w.heap[b]? ∧ G'.K b = G.K b := fun b hb hp => (h.prot b ⟨hb, hp⟩).2
  have hrow : ∀ j b, b ∈ G.R j → w'.heap[b]? = w.heap[b]? ∧ G'.K b = G.K b := fun j b hb => hprot b (hR.ows b _ (hR.slotsOw j b hb)).1 (.inr ⟨j, hb⟩)
  have hno : ∀ j b, b ∈ G.R j → G'.ow b = none := fun j b hb => by
    cases ho : G'.ow b with
    | none => rfl
    | some l => exact absurd ⟨(hR.ows b _ (hR.slotsOw j b hb)).1, .inr ⟨j, hb⟩⟩ (h.ows b l ho).2
  have hsz : w.heap.size ≤ w'.heap.size := h.size
  let R'' : Nat → List Nat := fun j => if dst = some j then G'.R 0 else G.R j
  let ow'' : Nat → Option Loc := fun b => match G'.ow b with
    | some (.slot _) => dst.map .slot
    | some l => some l
    | none => match G.ow b with | some (.slot j) => some (.slot j) | _ => none
  have hslot0 : VR G'.ρ G'.K w' v x (G'.R 0) := h.slots 0
  refine ⟨{ ρ := G'.ρ, K := G'.K, R := R'', T := G'.T, ow := ow'' }, ?_⟩
  have hs : (putO { S with st := st' } dst v).s = fun j => if dst = some j then v else S.s j := by
    funext j
    cases dst with
    | none => simp [putO]
    | some d => simp only [putO, AS.put, upd, Option.some.injEq]; by_cases e : j = d <;> simp [e, eq_comm]
  have hn : (putO { S with st := st' } dst v).n = S.n := by cases dst <;> rfl
  have hstE : (putO { S with st := st' } dst v).st = st' := by cases dst <;> rfl
  refine { defs := ?_, tsz := ?_, slots := fun j => ?_, slotsOw := fun j b hb => ?_, slotsNd := fun j => ?_, len := ?_, obs := ?_, obsOw := fun i b hb => ?_, obsNd := h.obsNd, ρOw := fun i b hb => ?_, ahead := ?_, ows := fun b l hb => ?_, fresh := h.fresh, prot := fun b hb => ?_, stab := fun b off hlt => ?_, mono := fun b => ?_, size := ?_, os := ?_, tape := ?_, output := ?_, ρ0 := ?_ }
  · cases dst <;> exact hR.defs
  · rw [hn]
    cases dst with
    | none => exact hR.tsz
    | some d => simp [Act.put, hR.tsz]
  · rw [hs]
    have htm : (a.put dst x).tmps.getD j undef = if dst = some j then x else a.tmps.getD j undef := by
      cases dst with
      | none => simp [Act.put]
      | some d =>
        simp only [Act.put, Option.some.injEq]
        rw [getD_setIfInBounds (by rw [hR.tsz]; exact hd d rfl)]
        by_cases e : j = d <;> simp [e, eq_comm]
    rw [htm]
    by_cases hj : dst = some j
    · simp only [hj, if_true, R'']; exact hslot0
    · simp only [hj, if_false, R'']
      exact (hR.slots j).mono hρ hst hK (hrow j)
  · by_cases hj : dst = some j
    · simp only [hj, if_true, R''] at hb
      have := h.slotsOw 0 b hb
      simp [ow'', this, hj]
    · simp only [hj, if_false, R''] at hb
      have h1 := hno j b hb
      have h2 := hR.slotsOw j b hb
      simp [ow'', h1, h2]
  · by_cases hj : dst = some j
    · simp only [hj, if_true, R'']; exact h.slotsNd 0
    · simp only [hj, if_false, R'']; exact hR.slotsNd j
  · rw [hstE]; exact h.len
  · rw [hstE]; exact h.obs
  · have := h.obsOw i b hb; simp [ow'', this]
  · have := h.ρOw i b hb; simp [ow'', this.1, this.2]
  · rw [hstE]; exact h.ahead
  · have key : ∀ l', G'.ow b = some l' → b < w'.heap.size ∧ ¬ C.prot b := fun l' hl => by
      have := h.ows b l' hl
      refine ⟨this.1, fun hp => this.2 ⟨?_, .inl hp⟩⟩
      exact Nat.lt_of_lt_of_le (hR.prot b hp).1 hR.size
    simp only [ow''] at hb
    split at hb
    · rename_i j hj; exact key _ hj
    · rename_i l' _ hl; exact key _ hl
    · split at hb
      · rename_i j hj
        exact ⟨Nat.lt_of_lt_of_le (hR.ows b _ hj).1 hsz, (hR.ows b _ hj).2⟩
      · cases hb
  · obtain ⟨h1, h2, h3⟩ := hR.prot b hb
    have h4 := hprot b (Nat.lt_of_lt_of_le h1 hR.size) (.inl hb)
    exact ⟨h1, h4.1.trans h2, h4.2.trans h3⟩
  · exact (hst b off (Nat.lt_of_lt_of_le hlt (hR.mono b))).trans (hR.stab b off hlt)
  · exact Nat.le_trans (hR.mono b) (hK b)
  · exact Nat.le_trans hR.size hsz
  · exact h.os.trans hR.os
  · exact h.tape.trans hR.tape
  · exact h.output.trans hR.output
  · exact hR.ρ0.trans h.ρ0

/-- a function of the program's own -/
def isOwn (P : Program) (f : FuncId) : Bool :=
  match P.funcs[f]? with
  | some fn => fn.name != "runtime.NumGoroutine" && fn.body.isSome
  | none => false

theorem run_enter {f : FuncId} (h : isOwn P f = true) (args : Array Value) (w : World) : (callFunc f args).run P w = .ok (.enter f args) w := by
  unfold isOwn at h
  split at h
  · rename_i fn hf
    simp only [Bool.and_eq_true, bne_iff_ne, ne_eq] at h
    obtain ⟨h1, h2⟩ := h
    simp only [Option.isSome_iff_exists] at h2
    obtain ⟨c, hc⟩ := h2
    simp [callFunc, hf, h1, hc]
  · cases h

theorem OpA.call {o : Oper} {c : Call} {f : FuncId} {caps : List V} {x : Operand} {Q : V → List Ob → Prop} (ho : o.op = .call c) (hc : c.callee = .value x) (hx : S.ev x = .fn f caps)
    (hown : isOwn P f = true) (hd : ∀ d, o.dst = some d → d < S.n) (h : FnA P f ((c.args.toList.map fun x => (S.ev x).view) ++ caps) S.st Q) :
    OpA P C o S (fun S' => ∃ v st', Q v st' ∧ S' = putO { S with st := st' } o.dst v) := by
  intro a w G next Q' hR hn
  obtain ⟨r, hv⟩ := hR.ev x
  rw [hx] at hv
  have hcr := hv.toCR rfl
  obtain ⟨vs, hcl, hl, hvs⟩ : ∃ vs : List Value, a.eval x = .func (.func f) #[] vs.toArray ∧ vs.length = caps.length ∧ ∀ (i : Nat) (c : V), caps[i]? = some c → CR G.ρ G.K w c (vs.getD i undef) [] := by
    generalize a.eval x = y at hcr
    cases hcr with
    | fn _ _ vs hl hvs => exact ⟨vs, rfl, hl, hvs⟩
  unfold Oper.wp
  have hrun : (execOp a.eval o).run P w = .ok (.enter f (c.args.toList.map a.eval ++ vs).toArray) w := by
    have e : c.args.map a.eval ++ vs.toArray = (c.args.toList.map a.eval ++ vs).toArray := by simp only [← Array.toList_inj, Array.toList_map, Array.toList_append]
    simp only [execOp, ho, resolve, hc, hcl, Deferred.ofValue, invoke]
    simp [run_enter hown]
  rw [hrun, Oper.upon_enter]
  refine (h _ _ G.sub rfl rfl (hR.sub (by simp [hl]) fun j v hj => ?_)).mono fun e w' ⟨y, v, st', G', he, hq, hR'⟩ => ?_
  · rw [List.getElem?_append] at hj
    simp only [List.getD, List.getElem?_append, List.length_map] at hj ⊢
    split at hj
    · rename_i hlt
      simp only [List.getElem?_map, Option.map_eq_some_iff] at hj
      obtain ⟨y, hy, rfl⟩ := hj
      obtain ⟨r, hv⟩ := hR.ev y
      have := hv.view
      rw [if_pos hlt]
      simpa only [List.getElem?_map, hy, Option.map_some, Option.getD_some] using this
    · rename_i hlt
      rw [if_neg hlt]
      exact VR.of_cell (hvs _ _ hj)
  · subst he
    obtain ⟨G'', hR''⟩ := hR.back hR' hd
    exact hn _ _ _ _ ⟨v, st', hq, rfl⟩ hR''

theorem RW_call {ops : Array Oper} {o : Oper} {l : List Oper} {K : AS → Prop} {c : Call} {f : FuncId} {caps : List V} {x : Operand} {Q : V → List Ob → Prop} (hw : wantA ops.toList S o = some true)
    (ho : o.op = .call c) (hc : c.callee = .value x) (hx : S.ev x = .fn f caps) (hown : isOwn P f = true) (hd : ∀ d, o.dst = some d → d < S.n)
    (h : FnA P f ((c.args.toList.map fun x => (S.ev x).view) ++ caps) S.st Q) (hk : ∀ v st', Q v st' → RW P C ops l (putO { S with st := st' } o.dst v) K) : RW P C ops (o :: l) S K :=
  RW_op hw (OpA.call ho hc hx hown hd h) fun S' ⟨v, st', hq, e⟩ => e ▸ hk v st' hq

theorem OpA.native {o : Oper} {c : Call} {f : FuncId} {caps : List V} {x : Operand} {v : V} (ho : o.op = .call c) (hc : c.callee = .value x) (hx : S.ev x = .fn f caps)
    (hd : ∀ d, o.dst = some d → d < S.n) (h : natV P f ((c.args.toList.map fun x => (S.ev x).view) ++ caps) = some v) :
    OpA P C o S (fun S' => S' = putO { S with st := S.st } o.dst v) := by
  intro a w G next Q' hR hn
  obtain ⟨r, hv⟩ := hR.ev x
  rw [hx] at hv
  have hcr := hv.toCR rfl
  obtain ⟨vs, hcl, hl, hvs⟩ : ∃ vs : List Value, a.eval x = .func (.func f) #[] vs.toArray ∧ vs.length = caps.length ∧ ∀ (i : Nat) (c : V), caps[i]? = some c → CR G.ρ G.K w c (vs.getD i undef) [] := by
    generalize a.eval x = y at hcr
    cases hcr with
    | fn _ _ vs hl hvs => exact ⟨vs, rfl, hl, hvs⟩
  obtain ⟨z, h1, h2⟩ := natV_run (ρ := G.ρ) (K := G.K) (w := w) h (xs := c.args.toList.map a.eval ++ vs) (by simp [hl]) fun j v hj => by
    rw [List.getElem?_append] at hj
    simp only [List.getD, List.getElem?_append, List.length_map] at hj ⊢
    split at hj
    · rename_i hlt
      simp only [List.getElem?_map, Option.map_eq_some_iff] at hj
      obtain ⟨y, hy, rfl⟩ := hj
      obtain ⟨r, hv⟩ := hR.ev y
      have := hv.view
      rw [if_pos hlt]
      exact ⟨[], by simpa only [List.getElem?_map, hy, Option.map_some, Option.getD_some] using this⟩
    · rename_i hlt
      rw [if_neg hlt]
      exact ⟨[], VR.of_cell (hvs _ _ hj)⟩
  unfold Oper.wp
  have hrun : (execOp a.eval o).run P w = .ok (.value z) w := by
    have e : c.args.map a.eval ++ vs.toArray = (c.args.toList.map a.eval ++ vs).toArray := by simp only [← Array.toList_inj, Array.toList_map, Array.toList_append]
    rw [← e] at h1
    simp only [execOp, ho, resolve, hc, hcl, Deferred.ofValue, invoke]
    simp [h1]
  rw [hrun, Oper.upon_value]
  cases hdst : o.dst with
  | none => exact hn _ _ _ _ (by simp [hdst, putO]) hR.put_none
  | some d => exact hn _ _ _ _ (by simp only [hdst, putO]) (hR.put0 (hd d hdst) h2)

end
end Go.AL
