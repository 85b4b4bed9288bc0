import Derived.Test.YtddncbgdoplgiaaGreatAlW
namespace Go.AL
open Go.RowKit

section
variable {P : Program} {C : Ctx} {S : AS} {a : Act} {w w' : World} {G : Gh} {ρ ρ' : List Nat} {K : Nat → Nat}

/-! ### calls on plain data need no objects -/
/-- what a callee with no objects may not touch -/
def Ctx.iso (C : Ctx) (w : World) (G : Gh) : Ctx :=
  { w0 := w, K0 := G.K, prot := fun (b : Nat) => b < w.heap.size ∧ (C.prot b ∨ (∃ i : Nat, G.ρ[i]? = some b) ∨ ∃ i, b ∈ G.T i), ρ0 := [] }

def Gh.iso (G : Gh) : Gh := { G with ρ := [], T := fun _ => [], ow := fun b => match G.ow b with | some (.slot j) => some (.slot j) | _ => none }

theorem Rel.iso (hR : Rel C S a w G) (hs : ∀ j, (S.s j).ahead 0 = true) : Rel (C.iso w G) { S with st := [] } a w G.iso := by
  refine { hR with slots := fun j => (hR.slots j).keep (n := 0) (fun i b hi => by omega) (hs j), slotsOw := fun j b hb => ?_, len := rfl, obs := fun i ob b hi => by simp at hi, obsOw := fun i b hb => by simp [Gh.iso] at hb, obsNd := fun i => by simp [Gh.iso], ρOw := fun i b hb => by simp [Gh.iso] at hb, ahead := fun i ob hi => by simp at hi, ows := fun b l hb => ?_, prot := fun b hb => ⟨hb.1, rfl, rfl⟩, stab := fun _ _ _ => rfl, mono := fun _ => Nat.le_refl _, size := Nat.le_refl _, os := rfl, tape := rfl, output := rfl, ρ0 := List.prefix_refl _ }
  · have hb' : b ∈ G.R j := hb
    simp [Gh.iso, hR.slotsOw j b hb']
  · simp only [Gh.iso] at hb
    split at hb
    · rename_i j hj
      injection hb with hb; subst hb
      refine ⟨(hR.ows b _ hj).1, fun hp => ?_⟩
      rcases hp.2 with hp | ⟨i, hi⟩ | ⟨i, hi⟩
      · exact (hR.ows b _ hj).2 hp
      · rw [(hR.ρOw i b hi).1] at hj; injection hj with hj; cases hj
      · rw [hR.obsOw i b hi] at hj; injection hj with hj; cases hj
    · cases hb

theorem Rel.uniso (hR : Rel C S a w G) {S1 : AS} {a1 : Act} {G1 : Gh} (h : Rel (C.iso w G) S1 a1 w' G1) (hst : S1.st = []) : ∃ G', Rel C { S1 with st := S.st } a1 w' G' := by
  have hρ1 : G1.ρ = [] := by
    have := h.len
    rw [hst] at this
    exact List.length_eq_zero_iff.1 this
  have hstab : ∀ b off, off < G.K b → w'.cell? ⟨b, off, none⟩ = w.cell? ⟨b, off, none⟩ := h.stab
  have hK : ∀ b, G.K b ≤ G1.K b := h.mono
  have hprot : ∀ b : Nat, b < w.heap.size → (C.prot b ∨ (∃ i : Nat, G.ρ[i]? = some b) ∨ ∃ i, b ∈ G.T i) → w'.heap[b]? = w.heap[b]? ∧ G1.K b = G.K b := fun b hb hp => (h.prot b ⟨hb, hp⟩).2
  have hρb : ∀ (i b : Nat), G.ρ[i]? = some b → w'.heap[b]? = w.heap[b]? ∧ G1.K b = G.K b := fun i b hi => hprot b (hR.ows b _ (hR.ρOw i b hi).1).1 (.inr (.inl ⟨i, hi⟩))
  have hTb : ∀ i b, b ∈ G.T i → w'.heap[b]? = w.heap[b]? ∧ G1.K b = G.K b := fun i b hi => hprot b (hR.ows b _ (hR.obsOw i b hi)).1 (.inr (.inr ⟨i, hi⟩))
  have hno : ∀ b : Nat, b < w.heap.size → (C.prot b ∨ (∃ i : Nat, G.ρ[i]? = some b) ∨ ∃ i, b ∈ G.T i) → G1.ow b = none := fun b hb hp => by
    cases ho : G1.ow b with
    | none => rfl
    | some l => exact absurd ⟨hb, hp⟩ (h.ows b l ho).2
  have hslot : ∀ b l, G1.ow b = some l → (∃ i, l = .cell i) → False ∨ True := fun _ _ _ _ => .inr trivial
  refine ⟨{ ρ := G.ρ, K := G1.K, R := G1.R, T := G.T, ow := fun b => match G1.ow b with | some (.slot j) => some (.slot j) | _ => (match G.ow b with | some (.slot _) => none | l => l) }, ?_⟩
  refine { defs := h.defs, tsz := h.tsz, slots := fun j => ?_, slotsOw := fun j b hb => ?_, slotsNd := h.slotsNd, len := hR.len, obs := fun i ob b hi hb => ?_, obsOw := fun i b hb => ?_, obsNd := hR.obsNd, ρOw := fun i b hb => ?_, ahead := hR.ahead, ows := fun b l hb => ?_, fresh := h.fresh, prot := fun b hb => ?_, stab := fun b off hlt => ?_, mono := fun b => ?_, size := ?_, os := ?_, tape := ?_, output := ?_, ρ0 := hR.ρ0 }
  · exact (h.slots j).mono (fun i b hi => by rw [hρ1] at hi; simp at hi) (fun _ _ _ => rfl) (fun _ => Nat.le_refl _) fun _ _ => ⟨rfl, rfl⟩
  · have hb' : b ∈ G1.R j := hb
    simp [h.slotsOw j b hb']
  · exact (hR.obs i ob b hi hb).mono (fun _ _ h => h) hstab hK (hρb i b hb).1 (hTb i)
  · have h1 := hno b (hR.ows b _ (hR.obsOw i b hb)).1 (.inr (.inr ⟨i, hb⟩))
    simp [h1, hR.obsOw i b hb]
  · have hb' : G.ρ[i]? = some b := hb
    have h1 := hno b (hR.ows b _ (hR.ρOw i b hb').1).1 (.inr (.inl ⟨i, hb'⟩))
    refine ⟨by simp [h1, (hR.ρOw i b hb').1], ?_⟩
    rw [(hρb i b hb').2]; exact (hR.ρOw i b hb').2
  · simp only at hb
    have hsz : w.heap.size ≤ w'.heap.size := h.size
    split at hb
    · rename_i j hj
      have := h.ows b _ hj
      refine ⟨this.1, fun hp => this.2 ⟨Nat.lt_of_lt_of_le (hR.prot b hp).1 hR.size, .inl hp⟩⟩
    · split at hb
      · cases hb
      · rename_i hl
        have := hR.ows b l hb
        exact ⟨Nat.lt_of_lt_of_le this.1 hsz, this.2⟩
  · obtain ⟨h1, h2, h3⟩ := hR.prot b hb
    have h4 := hprot b (Nat.lt_of_lt_of_le h1 hR.size) (.inl hb)
    exact ⟨h1, h4.1.trans h2, h4.2.trans h3⟩
  · exact (hstab b off (Nat.lt_of_lt_of_le hlt (hR.mono b))).trans (hR.stab b off hlt)
  · exact Nat.le_trans (hR.mono b) (hK b)
  · exact Nat.le_trans hR.size h.size
  · exact h.os.trans hR.os
  · exact h.tape.trans hR.tape
  · exact h.output.trans hR.output

/-- **a call on plain data is good beside any objects** -/
theorem FnA.iso {f : Nat} {args : List V} {Q : V → Prop} (h : FnA P f args [] fun v st' => Q v ∧ st' = []) (ha : V.aheads 0 args = true) (st : List Ob) : FnA P f args st fun v st' => Q v ∧ st' = st := by
  intro C xs G hρ hK hR
  have hR' := hR.iso fun j => by
    simp only [AS.args]
    rcases Nat.lt_or_ge j args.length with hj | hj
    · simp only [List.getD, List.getElem?_eq_getElem hj, Option.getD_some]
      exact aheads_iff.1 ha _ (List.getElem_mem hj)
    · simp only [List.getD, List.getElem?_eq_none hj, Option.getD_none]; rfl
  refine (h (C.iso C.w0 G) xs G.iso rfl rfl hR').mono fun e w' ⟨x, v, st', G', he, ⟨hq, hst⟩, h1⟩ => ?_
  subst hst
  obtain ⟨G'', h2⟩ := hR.uniso h1 rfl
  exact ⟨x, v, st, G'', he, ⟨hq, rfl⟩, h2⟩

end
end Go.AL
