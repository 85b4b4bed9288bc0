import Derived.Test.YtddncbgdoplgiaaGreatAlG
namespace Go.AL
open Go.RowKit

section
variable {P : Program} {C : Ctx} {S : AS} {a : Act} {w w' : World} {G : Gh}

/-- an object's content is turned; what it owns from then on it owned, or came of slots that own it no more -/
theorem Rel.setOb (h : Rel C S a w G) {i : Nat} {ob ob' : Ob} {b : Nat} (hi : S.st[i]? = some ob) (hb : G.ρ[i]? = some b)
    (hw : ∀ x, x ≠ b → w'.heap[x]? = w.heap[x]?) (hsz : w'.heap.size = w.heap.size) (hos : w'.os = w.os) (htape : w'.tape = w.tape) (hout : w'.output = w.output)
    {r' : List Nat} (hob : ObR G.ρ G.K w' b ob' r') (hah : ob'.ahead i = true) (hnd : r'.Nodup)
    {s' : Nat → V} {R' : Nat → List Nat} (hs : ∀ j, VR G.ρ G.K w (s' j) (a.tmps.getD j undef) (R' j)) (hRnd : ∀ j, (R' j).Nodup) (hR : ∀ j x, x ∈ R' j → x ∈ G.R j ∧ x ∉ r')
    (hr : ∀ x ∈ r', x ∈ G.T i ∨ ∃ j, x ∈ G.R j) :
    Rel C { S with s := s', st := S.st.set i ob' } a w' { G with R := R', T := fun k => if k = i then r' else G.T k, ow := fun x => if x ∈ r' then some (.cell i) else G.ow x } := by
  have hK0 : G.K b = 0 := (h.ρOw i b hb).2
  have hst : ∀ x off, off < G.K x → w'.cell? ⟨x, off, none⟩ = w.cell? ⟨x, off, none⟩ := fun x off hlt => by
    have : x ≠ b := fun e => by rw [e, hK0] at hlt; omega
    simp [World.cell?, hw x this]
  have hne : ∀ x l, G.ow x = some l → l ≠ .ob i → x ≠ b := fun x l hx hl e => by
    rw [e, (h.ρOw i b hb).1] at hx; injection hx with hx; exact hl hx.symm
  have hil : i < S.st.length := (List.getElem?_eq_some_iff.1 hi).1
  have hr' : ∀ x ∈ r', (∃ l, G.ow x = some l ∧ ∀ k, l ≠ .ob k) := fun x hx => by
    rcases hr x hx with h1 | ⟨j, h1⟩
    · exact ⟨_, h.obsOw i x h1, by simp⟩
    · exact ⟨_, h.slotsOw j x h1, by simp⟩
  refine { h with slots := fun j => ?_, slotsOw := fun j x hx => ?_, slotsNd := hRnd, len := by simp [h.len], obs := fun k o x hk hx => ?_, obsOw := fun k x hx => ?_, obsNd := fun k => ?_, ρOw := fun k x hx => ?_, ahead := fun k o hk => ?_, ows := fun x l hx => ?_, fresh := fun x hx => h.fresh x (by omega), prot := fun x hx => ?_, stab := fun x off hlt => ?_, size := by rw [hsz]; exact h.size, os := hos.trans h.os, tape := htape.trans h.tape, output := hout.trans h.output }
  · exact (hs j).mono (fun _ _ h => h) hst (fun _ => Nat.le_refl _) fun x hx => ⟨hw x (hne x _ (h.slotsOw j x (hR j x hx).1) (by simp)), rfl⟩
  · have := hR j x hx
    simp only [this.2, if_false]
    exact h.slotsOw j x this.1
  · by_cases hki : k = i
    · subst hki
      rw [hb] at hx; injection hx with hx; subst hx
      simp only [List.getElem?_set_self hil, Option.some.injEq] at hk
      subst hk
      simp only [if_true]
      exact hob
    · rw [List.getElem?_set_ne (Ne.symm hki)] at hk
      simp only [hki, if_false]
      have hxb : x ≠ b := fun e => by
        have h1 := (h.ρOw k x hx).1
        rw [e, (h.ρOw i b hb).1] at h1
        injection h1 with h1; injection h1 with h1; exact hki h1.symm
      exact (h.obs k o x hk hx).mono (fun _ _ h => h) hst (fun _ => Nat.le_refl _) (hw x hxb) fun y hy => ⟨hw y (hne y _ (h.obsOw k y hy) (by simp)), rfl⟩
  · by_cases hki : k = i
    · subst hki; simp only [if_true] at hx; simp [hx]
    · simp only [hki, if_false] at hx
      have h1 := h.obsOw k x hx
      have : x ∉ r' := fun hx' => by
        rcases hr x hx' with h2 | ⟨j, h2⟩
        · rw [h.obsOw i x h2] at h1; injection h1 with h1; injection h1 with h1; exact hki h1.symm
        · rw [h.slotsOw j x h2] at h1; injection h1 with h1; cases h1
      simp [this, h1]
  · by_cases hki : k = i
    · simp only [hki, if_true]; exact hnd
    · simp only [hki, if_false]; exact h.obsNd k
  · have h1 := h.ρOw k x hx
    have : x ∉ r' := fun hx' => by
      obtain ⟨l, h2, h3⟩ := hr' x hx'
      rw [h1.1] at h2; injection h2 with h2; exact h3 k h2.symm
    simp [this, h1]
  · by_cases hki : k = i
    · subst hki
      simp only [List.getElem?_set_self hil, Option.some.injEq] at hk
      subst hk; exact hah
    · rw [List.getElem?_set_ne (Ne.symm hki)] at hk; exact h.ahead k o hk
  · rw [hsz]
    by_cases hx' : x ∈ r'
    · obtain ⟨l', h2, _⟩ := hr' x hx'; exact h.ows x l' h2
    · simp only [hx', if_false] at hx; exact h.ows x l hx
  · obtain ⟨h1, h2, h3⟩ := h.prot x hx
    have hxb : x ≠ b := fun e => (h.ows b _ (h.ρOw i b hb).1).2 (e ▸ hx)
    exact ⟨h1, (hw x hxb).trans h2, h3⟩
  · exact (hst x off (Nat.lt_of_lt_of_le hlt (h.mono x))).trans (h.stab x off hlt)

theorem VR_mkPtr {ρ : List Nat} {K : Nat → Nat} {o b off : Nat} {p : List Nat} (h : ρ[o]? = some b) : VR ρ K w (.ptr o off p) (.pointer (some ⟨b, off, none⟩)) [] := VR.of_cell (.ptr o off p b h)

theorem ow_new (h : Rel C S a w G) {b : Nat} (hb : w.heap.size ≤ b) : G.ow b = none := by
  cases ho : G.ow b with
  | none => rfl
  | some l => have := (h.ows b l ho).1; omega

/-- a new variable in memory -/
theorem Rel.newVar (h : Rel C S a w G) {v : V} (hw : v.wf) (hah : v.ahead S.st.length = true) {cs : List Value} (hc : CRs G.ρ G.K w v.flat cs []) (e : TypeId) :
    ∃ G', Rel C { S with st := S.st ++ [.box v] } a (w.alloc (.cells cs.toArray e)) G' ∧ G'.ρ[S.st.length]? = some w.heap.size := by
  have h1 := h.alloc (.cells cs.toArray e) 0
  have hold : ∀ (x : Nat), x < w.heap.size → (w.alloc (.cells cs.toArray e)).heap[x]? = w.heap[x]? := fun x hx => Below.heap_alloc _ _ _ hx
  have hob : ObR G.ρ (fun b => if b = w.heap.size then 0 else G.K b) (w.alloc (.cells cs.toArray e)) w.heap.size (.box v) [] := by
    refine ⟨hw, cs.toArray, e, by simpa using heap_alloc_new w (.cells cs.toArray e), ?_⟩
    refine hc.mono (fun _ _ h => h) (fun b off hlt => ?_) (fun b => ?_) (by simp)
    · rcases Nat.lt_or_ge b w.heap.size with hb | hb
      · simp [World.cell?, hold b hb]
      · rw [h.fresh b hb] at hlt; omega
    · by_cases hb : b = w.heap.size
      · rw [hb, h.fresh _ (Nat.le_refl _)]; omega
      · simp [hb]
  have := h1.object (b := w.heap.size) (by simp) h.size (ow_new h (Nat.le_refl _)) (by simp) hob hah
  refine ⟨_, this, ?_⟩
  simp only
  rw [List.getElem?_append_right (by rw [h.len]; exact Nat.le_refl _), h.len]; simp

/-! ### alloc, box -/
def evAlloc (P : Program) (t : TypeId) (S : AS) (d : Nat) : Option AS :=
  (zeroOf P t).map fun v => AS.put { S with st := S.st ++ [.box v] } d (.ptr S.st.length 0 [])

theorem evAlloc_sound {o : Oper} {t : TypeId} {d : Nat} {S' : AS} (ho : o.op = .alloc t) (hdst : o.dst = some d) (hd : d < S.n) (h : evAlloc P t S d = some S') : OpA P C o S (· = S') := by
  intro a w G next Q hR hn
  simp only [evAlloc, Option.map_eq_some_iff] at h
  obtain ⟨v, hz, rfl⟩ := h
  obtain ⟨h1, h2, h3, z, h4, h5, _⟩ := zeroOf_spec (w := w) (ρ := G.ρ) (K := G.K) hz
  have hrun : (execOp a.eval o).run P w = .ok (.value (.pointer (some ⟨w.heap.size, 0, none⟩))) (w.alloc (.cells z.cells t)) := by
    simp [execOp, ho, Instr.alloc, h4, Go.newVar, newRow]
  obtain ⟨G', hR', hρ⟩ := hR.newVar h1 (ahead_mono (Nat.zero_le _) v h3) h5 t
  unfold Oper.wp
  rw [hrun, Oper.upon_value, hdst]
  simp only [Array.toArray_toList] at hR'
  exact hn _ _ _ _ rfl (hR'.put0 (S := { S with st := S.st ++ [.box v] }) hd (VR_mkPtr hρ))

def V.isVal : V → Bool
  | .tup _ | .dead => false
  | _ => true

theorem VR_val {ρ : List Nat} {K : Nat → Nat} {v : V} {x : Value} {r : List Nat} (h : VR ρ K w v x r) (hv : v.isVal = true) : VR0 ρ K w v x r := by
  revert h hv
  refine VR.cases (P := fun v => VR ρ K w v x r → v.isVal = true → VR0 ρ K w v x r) v (fun _ h => by simp [V.isVal] at h) (fun _ _ h => by simp [V.isVal] at h) (fun v hv h _ => by rw [hv] at h; exact h)

theorem isVal_view (v : V) : v.view.isVal = v.isVal := by
  cases v <;> first
    | rfl
    | (simp only [V.view]; split <;> rfl)

theorem VR0_cells {ρ : List Nat} {K : Nat → Nat} {v : V} {x : Value} {r : List Nat} (h : VR0 ρ K w v x r) : v.wf ∧ CRs ρ K w v.flat x.cells.toList r ∧ isAggV x = v.isAgg := by
  obtain ⟨h1, cs, h2, rfl⟩ := h
  refine ⟨h1, ?_, ?_⟩
  · cases ha : v.isAgg with
    | true => simpa [V.mk, ha, Value.cells] using h2
    | false =>
      obtain ⟨c, rfl⟩ := CRs_one h2 ha
      have hc : c.cells = #[c] := by
        cases v <;> simp [V.isAgg] at ha <;> simp only [V.flat] at h2 <;> (obtain ⟨_, _, _, h3, _⟩ := h2; exact h3.cells)
      simp [V.mk, ha, hc, h2]
  · cases ha : v.isAgg with
    | true => simp [V.mk, ha, isAggV]
    | false =>
      obtain ⟨c, rfl⟩ := CRs_one h2 ha
      have hc : isAggV c = false := by
        cases v <;> simp [V.isAgg] at ha <;> simp only [V.flat] at h2 <;> (obtain ⟨_, _, _, h3, _⟩ := h2; cases h3 <;> rfl)
      simp [V.mk, ha, hc]

def evBox (S : AS) (d : Nat) (x : Operand) : Option AS :=
  if (S.ev x).isVal ∧ (S.ev x).ahead S.st.length then some (AS.put { S with st := S.st ++ [.box (S.ev x).view] } d (.ptr S.st.length 0 [])) else none

theorem evBox_sound {o : Oper} {t : TypeId} {d : Nat} {x : Operand} {S' : AS} (ho : o.op = .box t x) (hdst : o.dst = some d) (hd : d < S.n) (h : evBox S d x = some S') : OpA P C o S (· = S') := by
  intro a w G next Q hR hn
  unfold evBox at h
  split at h
  · rename_i hc
    injection h with h; subst h
    obtain ⟨r, hv⟩ := hR.ev x
    obtain ⟨h1, h2, _⟩ := VR0_cells (VR_val hv.view (by rw [isVal_view]; exact hc.1))
    have hrun : (execOp a.eval o).run P w = .ok (.value (.pointer (some ⟨w.heap.size, 0, none⟩))) (w.alloc (.cells (a.eval x).cells t)) := by
      simp [execOp, ho, Instr.box, Go.newVar, newRow]
    obtain ⟨G', hR', hρ⟩ := hR.newVar h1 (by rw [ahead_view]; exact hc.2) h2 t
    unfold Oper.wp
    rw [hrun, Oper.upon_value, hdst]
    simp only [Array.toArray_toList] at hR'
    exact hn _ _ _ _ rfl (hR'.put0 (S := { S with st := S.st ++ [.box (S.ev x).view] }) hd (VR_mkPtr hρ))
  · cases h

/-! ### load -/
/-- what an address leads to -/
def AS.deref (S : AS) : V → Option V
  | .ptr o off p =>
    match S.st[o]? with
    | some (.box v) => (v.at? p).bind fun r => if r.1 = off then some r.2 else none
    | _ => none
  | .elem v => some v
  | _ => none

theorem CRs_of_fn {ρ : List Nat} {K : Nat → Nat} {us : List V} {vs : Nat → Value} (hv : ∀ i u, us[i]? = some u → CR ρ K w u (vs i) []) : CRs ρ K w us ((List.range us.length).map vs) [] := by
  refine CRs.nil_iff.2 ⟨by simp, fun i u hu => ?_⟩
  have hlt : i < us.length := (List.getElem?_eq_some_iff.1 hu).1
  have : ((List.range us.length).map vs).getD i undef = vs i := by simp [List.getD, hlt]
  rw [this]; exact hv i u hu

/-- the cells at an address, and what they stand for -/
theorem deref_spec (hR : Rel C S a w G) {u v : V} {x : Value} {r : List Nat} (hx : VR G.ρ G.K w u x r) (h : S.deref u = some v) :
    ∃ b off cs r', x = .pointer (some ⟨b, off, none⟩) ∧ v.wf ∧ CRs G.ρ G.K w v.flat cs r' ∧ ∀ (j : Nat) c, cs[j]? = some c → w.cell? ⟨b, off + j, none⟩ = some c := by
  unfold AS.deref at h
  split at h
  · rename_i o off p
    obtain ⟨b, hb, rfl, _⟩ := VR_ptr hx
    split at h
    · rename_i v0 hst
      simp only [Option.bind_eq_some_iff] at h
      obtain ⟨⟨o1, u1⟩, hat, h⟩ := h
      split at h
      · rename_i hoff
        injection h with h
        simp only at h hoff
        subst h hoff
        obtain ⟨hw, cs, e, hheap, hcr⟩ := hR.obs o (.box v0) b hst hb
        obtain ⟨g1, pre, post, g2, g3, _⟩ := at_split p v0 o1 u1 hw hat
        rw [g3] at hcr
        obtain ⟨r1, r2, _, _, hcr2⟩ := hcr.split
        obtain ⟨r3, r4, _, hcr3, _⟩ := hcr2.split
        refine ⟨b, o1, _, r3, rfl, g1, hcr3, fun j c hj => ?_⟩
        rw [cell?_of_cells hheap]
        rw [g2] at hj
        have hj' : j < u1.flat.length := by
          have := (List.getElem?_eq_some_iff.1 hj).1
          simp at this; omega
        rw [List.getElem?_take_of_lt hj', List.getElem?_drop] at hj
        simpa using hj
      · cases h
    · cases h
  · rename_i v0
    injection h with h; subst h
    obtain ⟨b, off, vs, rfl, _, hw, hv, hs⟩ := VR_elem hx
    refine ⟨b, off, _, [], rfl, hw, CRs_of_fn hv, fun j c hj => ?_⟩
    have hlt : j < v0.flat.length := by
      have := (List.getElem?_eq_some_iff.1 hj).1
      simpa using this
    have hc : c = vs j := by
      have := (List.getElem?_eq_some_iff.1 hj).2
      simpa using this.symm
    subst hc
    exact (hs j hlt).1
  · cases h

theorem run_loadVar {t : TypeId} {b off : Nat} {cs : List Value} {v : V} {r : List Nat} {ρ : List Nat} {K : Nat → Nat} (ht : tyS P t = some (v.isAgg, v.size)) (hw : v.wf) (hc : CRs ρ K w v.flat cs r)
    (hcell : ∀ (j : Nat) c, cs[j]? = some c → w.cell? ⟨b, off + j, none⟩ = some c) :
    ∃ y, (Instr.loadAt t (.pointer (some ⟨b, off, none⟩))).run P w = .ok y w ∧ VR0 ρ K w v y r := by
  obtain ⟨h1, h2, _⟩ := tyS_spec (w := w) ht
  have hlen : cs.length = v.size := by rw [hc.length, flat_length v hw]
  cases ha : v.isAgg with
  | true =>
    refine ⟨.agg cs.toArray, ?_, hw, cs, hc, by simp [V.mk, ha]⟩
    rw [ha] at h1
    have := run_loadCells_list (P := P) w ⟨b, off, none⟩ cs (fun j c hj => by rw [addr_add]; exact hcell j c hj)
    rw [hlen] at this
    simp [Instr.loadAt, Instr.sureAddr, Go.loadVar, h1, h2, this]
  | false =>
    obtain ⟨c, rfl⟩ := CRs_one hc ha
    refine ⟨c, ?_, hw, [c], hc, by simp [V.mk, ha]⟩
    rw [ha] at h1
    have := hcell 0 c rfl
    simp only [Nat.add_zero] at this
    simp [Instr.loadAt, Instr.sureAddr, Go.loadVar, h1, this]

def evLoad (P : Program) (t : TypeId) (S : AS) (u : V) : Option V :=
  (S.deref u).bind fun v => if tyS P t = some (v.isAgg, v.size) then some v.view else none

theorem evLoad_run {t : TypeId} (hR : Rel C S a w G) {u v : V} {x : Value} {r : List Nat} (hx : VR G.ρ G.K w u x r) (h : evLoad P t S u = some v) :
    ∃ z, (Instr.loadAt t x).run P w = .ok z w ∧ VR G.ρ G.K w v z [] := by
  unfold evLoad at h
  simp only [Option.bind_eq_some_iff] at h
  obtain ⟨v0, hd, h⟩ := h
  split at h
  · rename_i ht
    injection h with h; subst h
    obtain ⟨b, off, cs, r', rfl, hw, hcr, hcell⟩ := deref_spec hR hx hd
    obtain ⟨y, h1, h2⟩ := run_loadVar ht hw hcr hcell
    exact ⟨y, h1, VR_of_VR0 h2.view⟩
  · cases h

end
end Go.AL
