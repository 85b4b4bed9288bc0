import Derived.Test.YtddncbgdoplgiaaGreatAlH
namespace Go.AL
open Go.RowKit

mutual
/-- does it own a row? -/
def V.owns : V → Bool
  | .agg fs => V.ownss fs
  | .arr _ _ xs => V.ownss xs
  | .own _ _ _ => true
  | .tup vs => V.ownss vs
  | _ => false
def V.ownss : List V → Bool
  | [] => false
  | v :: vs => v.owns || V.ownss vs
end
mutual
theorem owns_data : ∀ (v : V), v.data = true → v.owns = false
  | .agg fs, h => by simp only [V.owns, V.data] at *; exact ownss_datas fs h
  | .arr _ _ xs, h => by simp only [V.owns, V.data] at *; exact ownss_datas xs h
  | .own _ _ _, h => by simp [V.data] at h
  | .tup _, h => by simp [V.data] at h
  | .bool _, _ | .int _ _, _ | .flt _ _, _ | .str _, _ | .nilp, _ | .nilf, _ | .nili, _ | .nilm, _ | .list _, _
  | .ptr _ _ _, _ | .bsl _ _ _ _ _, _ | .elem _, _ | .fn _ _, _ | .mp _, _ | .dead, _ => by simp [V.owns]
theorem ownss_datas : ∀ (vs : List V), V.datas vs = true → V.ownss vs = false
  | [], _ => by simp [V.ownss]
  | v :: vs, h => by
    simp only [V.datas, Bool.and_eq_true] at h
    simp only [V.ownss, owns_data v h.1, ownss_datas vs h.2, Bool.or_false]
end
mutual
theorem owns_flat : ∀ (v : V), v.owns = false → ∀ u ∈ v.flat, u.owns = false
  | .agg fs, h => by simp only [V.owns, V.flat] at *; exact ownss_flats fs h
  | .arr _ _ xs, h => by simp only [V.owns, V.flat] at *; exact ownss_flats xs h
  | .tup _, h | .own _ _ _, h | .list _, h | .elem _, h | .fn _ _, h | .ptr _ _ _, h | .bsl _ _ _ _ _, h | .mp _, h | .bool _, h | .int _ _, h | .flt _ _, h
  | .str _, h | .nilp, h | .nilf, h | .nili, h | .nilm, h | .dead, h => by
    intro u hu; simp only [V.flat, List.mem_singleton] at hu; subst hu; exact h
theorem ownss_flats : ∀ (vs : List V), V.ownss vs = false → ∀ u ∈ V.flats vs, u.owns = false
  | [], _ => by simp [V.flats]
  | v :: vs, h => by
    simp only [V.ownss, Bool.or_eq_false_iff] at h
    intro u hu
    simp only [V.flats, List.mem_append] at hu
    exact hu.elim (owns_flat v h.1 u) (ownss_flats vs h.2 u)
end

section
variable {P : Program} {C : Ctx} {S : AS} {a : Act} {w w' : World} {G : Gh} {ρ : List Nat} {K : Nat → Nat}

theorem CRs.owns_rows {vs : List V} {cs : List Value} {r : List Nat} (h : CRs ρ K w vs cs r) (hd : ∀ v ∈ vs, v.owns = false) : r = [] := by
  induction vs generalizing cs r with
  | nil => cases cs <;> simp_all [CRs]
  | cons v vs ih =>
    cases cs with
    | nil => simp [CRs] at h
    | cons c cs =>
      obtain ⟨r1, r2, rfl, h1, h2⟩ := h
      have : r1 = [] := by
        rcases h1.rows with rfl | ⟨b, e, k, xs, rfl, rfl, _⟩
        · rfl
        · have := hd (.own e k xs) (by simp); simp [V.owns] at this
      rw [this, ih h2 (fun x hx => hd x (by simp [hx]))]; rfl

theorem VR0.owns_rows {v : V} {x : Value} {r : List Nat} (h : VR0 ρ K w v x r) (ho : v.owns = false) : r = [] := by
  obtain ⟨_, cs, h2, _⟩ := h
  exact h2.owns_rows (owns_flat v ho)

theorem TR.owns_rows {vs : List V} {xs : List Value} {r : List Nat} (h : TR ρ K w vs xs r) (ho : V.ownss vs = false) : r = [] := by
  induction vs generalizing xs r with
  | nil => cases xs <;> simp_all [TR]
  | cons v vs ih =>
    cases xs with
    | nil => simp [TR] at h
    | cons c cs =>
      simp only [V.ownss, Bool.or_eq_false_iff] at ho
      obtain ⟨r1, r2, rfl, h1, h2⟩ := h
      rw [h1.owns_rows ho.1, ih h2 ho.2]; rfl

theorem VR.owns_rows {v : V} {x : Value} {r : List Nat} (h : VR ρ K w v x r) (ho : v.owns = false) : r = [] := by
  revert h ho
  refine VR.cases (P := fun v => VR ρ K w v x r → v.owns = false → r = []) v (fun h _ => h) (fun vs h ho => ?_) (fun v hv h ho => ?_)
  · obtain ⟨ws, _, h2⟩ := h
    simp only [V.owns] at ho
    exact h2.owns_rows ho
  · rw [hv] at h; exact h.owns_rows ho

/-! ### store -/
theorem store_core (hR : Rel C S a w G) {t : TypeId} {o off : Nat} {p : List Nat} {v old new : V} (hst : S.st[o]? = some (.box v)) (hat : v.at? p = some (off, old))
    {b : Nat} (hb : G.ρ[o]? = some b) {x : Value} {rn : List Nat} (hx : VR0 G.ρ G.K w new x rn) (hty : ∃ g, tyS P t = some (g, new.size)) (hsz : new.size = old.size) (hah : new.ahead o = true)
    {s' : Nat → V} {R' : Nat → List Nat} (hs : ∀ j, VR G.ρ G.K w (s' j) (a.tmps.getD j undef) (R' j)) (hRnd : ∀ j, (R' j).Nodup) (hRR : ∀ j x, x ∈ R' j → x ∈ G.R j ∧ x ∉ rn)
    (hrn : rn.Nodup) (hrs : ∀ x ∈ rn, ∃ j, x ∈ G.R j) :
    ∃ w' G', (Instr.storeAt t (.pointer (some ⟨b, off, none⟩)) x).run P w = .ok () w' ∧ Rel C { S with s := s', st := S.st.set o (.box (v.set p new)) } a w' G' := by
  obtain ⟨hw, cs, e, hheap, hcr⟩ := hR.obs o (.box v) b hst hb
  obtain ⟨g1, pre, post, g2, g3, g4⟩ := at_split p v off old hw hat
  obtain ⟨hwn, hcn, _⟩ := VR0_cells hx
  obtain ⟨m1, m2, m3⟩ := g4 new hwn hsz
  have hvl := hcr.length
  rw [g3] at hcr
  obtain ⟨r1, r23, hT, hc1, hc23⟩ := hcr.split
  obtain ⟨r2, r3, rfl, hc2, hc3⟩ := hc23.split
  have hxl : x.cells.toList.length = new.size := by rw [hcn.length, flat_length new hwn]
  have hol : old.flat.length = new.size := by rw [flat_length old g1, hsz]
  have hfl : v.flat.length = pre.length + (new.size + post.length) := by rw [g3]; simp [hol]
  obtain ⟨gg, hty⟩ := hty
  obtain ⟨_, hsize, _⟩ := tyS_spec (w := w) hty
  have hrun := run_storeCells_at P b off e x.cells.toList 0 cs w hheap (by simp at hvl; omega) (hcn.oneCell)
  simp only [Nat.add_zero, hxl, List.append_assoc] at hrun
  generalize hnc : (cs.toList.take off ++ (x.cells.toList ++ cs.toList.drop (off + new.size))).toArray = nc at hrun
  have hrow := setRow_heap w b cs nc e (0, 0) hheap
  have hoth : ∀ y, y ≠ b → (w.setRow b nc).heap[y]? = w.heap[y]? := fun y hy => by
    simp only [World.setRow, Array.getElem?_modify]; rw [if_neg (Ne.symm hy)]
  refine ⟨_, _, ?_, hR.setOb (ob' := .box (v.set p new)) (r' := r1 ++ (rn ++ r3)) hst hb hoth (by simp) rfl rfl rfl ?_ ?_ ?_ hs hRnd ?_ ?_⟩
  · simp only [Instr.storeAt, Instr.sureAddr, storeVar, Sem.run_bind, Sem.run_pure, Result.andThen_ok, hsize]
    have : x.cells.size = new.size := by simpa using hxl
    simp only [this, ne_eq, not_true_eq_false, if_false]
    exact hrun
  · refine ⟨m1, _, e, hrow, ?_⟩
    have hcell : ∀ y off', off' < G.K y → (w.setRow b nc).cell? ⟨y, off', none⟩ = w.cell? ⟨y, off', none⟩ := fun y off' hlt => by
      have : y ≠ b := fun e => by rw [e, (hR.ρOw o b hb).2] at hlt; omega
      simp only [World.cell?, hoth y this]
    have hrowb : ∀ y ∈ r1 ++ (rn ++ r3), y ≠ b := fun y hy e => by
      have hb1 := (hR.ρOw o b hb).1
      simp only [List.mem_append] at hy
      rcases hy with hy | hy | hy
      · have := hR.obsOw o y (by rw [hT]; simp [hy]); rw [e, hb1] at this; injection this with this; cases this
      · obtain ⟨j, hj⟩ := hrs y hy; have := hR.slotsOw j y hj; rw [e, hb1] at this; injection this with this; cases this
      · have := hR.obsOw o y (by rw [hT]; simp [hy]); rw [e, hb1] at this; injection this with this; cases this
    have hmono : ∀ y ∈ r1 ++ (rn ++ r3), (w.setRow b nc).heap[y]? = w.heap[y]? ∧ G.K y = G.K y := fun y hy => ⟨hoth y (hrowb y hy), rfl⟩
    rw [m3]
    rw [g2] at hc1 hc3 hc2
    rw [hol] at hc3
    rw [← hnc]
    simp only
    rw [hnc]
    refine CRs.mono (fun _ _ h => h) hcell (fun _ => Nat.le_refl _) (hc1.append (hcn.append ?_)) hmono
    rw [List.drop_drop] at hc3
    exact hc3
  · have h1 := hR.ahead o (.box v) hst
    simp only [Ob.ahead] at *
    exact set_ahead p v new h1 hah
  · have hnd := hR.obsNd o
    rw [hT] at hnd
    have hd : ∀ y ∈ rn, y ∉ G.T o := fun y hy hy' => by
      obtain ⟨j, hj⟩ := hrs y hy
      have h1 := hR.slotsOw j y hj
      rw [hR.obsOw o y hy'] at h1; injection h1 with h1; cases h1
    rw [hT] at hd
    simp only [List.nodup_append, List.mem_append] at hnd hd ⊢
    refine ⟨hnd.1, ⟨hrn, hnd.2.1.2.1, fun y hy z hz e => hd y hy (by rw [e]; exact .inr (.inr hz))⟩, fun y hy z hz e => ?_⟩
    rcases hz with hz | hz
    · exact hd z hz (by rw [← e]; exact .inl hy)
    · exact hnd.2.2 y hy z (.inr hz) e
  · intro j y hy
    refine ⟨(hRR j y hy).1, fun hy' => ?_⟩
    simp only [List.mem_append] at hy'
    have h1 := hR.slotsOw j y (hRR j y hy).1
    rcases hy' with hy' | hy' | hy'
    · rw [hR.obsOw o y (by rw [hT]; simp [hy'])] at h1; injection h1 with h1; cases h1
    · exact (hRR j y hy).2 hy'
    · rw [hR.obsOw o y (by rw [hT]; simp [hy'])] at h1; injection h1 with h1; cases h1
  · intro y hy
    simp only [List.mem_append] at hy
    rcases hy with hy | hy | hy
    · exact .inl (by rw [hT]; simp [hy])
    · exact .inr (hrs y hy)
    · exact .inl (by rw [hT]; simp [hy])

def evStore (P : Program) (t : TypeId) (S : AS) (p x : Operand) : Option AS :=
  match S.ev p with
  | .ptr o off q =>
    match S.st[o]? with
    | some (.box v) =>
      (v.at? q).bind fun r =>
        if r.1 = off ∧ (S.ev x).isVal ∧ (tyS P t).map (·.2) = some (S.ev x).size ∧ (S.ev x).size = r.2.size ∧ (S.ev x).ahead o then
          if (S.ev x).owns then
            match x with
            | .tmp d => some { S with s := upd S.s d (S.s d).view, st := S.st.set o (.box (v.set q (S.ev x))) }
            | _ => some { S with st := S.st.set o (.box (v.set q (S.ev x))) }
          else some { S with st := S.st.set o (.box (v.set q (S.ev x))) }
        else none
    | _ => none
  | _ => none

theorem const_rows {C : Ctx} {S : AS} {a : Act} {w : World} {G : Gh} (_h : Rel C S a w G) (x : Operand) (hx : ∀ t, x ≠ .tmp t) : VR G.ρ G.K w (S.ev x) (a.eval x) [] := by
  cases x with
  | tmp t => exact absurd rfl (hx t)
  | const c => exact VR_ofVal c
  | global g => exact rfl
  | func f => exact ⟨by simp [AS.ev, V.wf], [_], ⟨[], [], rfl, .fn f [] [] rfl (by simp), rfl⟩, rfl⟩

theorem evStore_sound {o : Oper} {t : TypeId} {p x : Operand} {S' : AS} (ho : o.op = .store t p x) (hdst : o.dst = none) (h : evStore P t S p x = some S') : OpA P C o S (· = S') := by
  intro a w G next Q hR hn
  unfold evStore at h
  split at h
  · rename_i ob off q hp
    split at h
    · rename_i v hst
      simp only [Option.bind_eq_some_iff] at h
      obtain ⟨⟨o1, old⟩, hat, h⟩ := h
      split at h
      · rename_i hc
        obtain ⟨rfl, hv, hty, hsz, hah⟩ := hc
        simp only at hsz hat
        obtain ⟨r, hvp⟩ := hR.ev p
        rw [hp] at hvp
        obtain ⟨b, hb, hpe, _⟩ := VR_ptr hvp
        have hty' : ∃ g, tyS P t = some (g, (S.ev x).size) := by
          cases ht : tyS P t with
          | none => simp [ht] at hty
          | some s => simp [ht] at hty; exact ⟨s.1, by rw [← hty]⟩
        have fin : ∀ S'' : AS, (∃ w' G', (Instr.storeAt t (.pointer (some ⟨b, o1, none⟩)) (a.eval x)).run P w = .ok () w' ∧ Rel C S'' a w' G') → S'' = S' → o.wp P a w next Q := by
          rintro S'' ⟨w', G', h1, h2⟩ rfl
          unfold Oper.wp
          have : (execOp a.eval o).run P w = .ok .skip w' := by simp [execOp, ho, hpe, h1]
          rw [this, Oper.upon_skip, hdst]
          exact hn _ _ _ _ rfl h2
        have plain : ∀ rn, VR G.ρ G.K w (S.ev x) (a.eval x) rn → rn = [] → ∃ w' G', (Instr.storeAt t (.pointer (some ⟨b, o1, none⟩)) (a.eval x)).run P w = .ok () w' ∧ Rel C { S with st := S.st.set ob (.box (v.set q (S.ev x))) } a w' G' := by
          rintro rn hvx rfl
          exact store_core hR hst hat hb (VR_val hvx hv) hty' hsz hah (s' := S.s) (R' := G.R) hR.slots hR.slotsNd (fun j x hx => ⟨hx, by simp⟩) (by simp) (by simp)
        split at h
        · split at h
          · rename_i d hh
            injection h with h
            refine fin _ ?_ h
            refine store_core hR hst hat hb (VR_val (hR.slots d) hv) hty' hsz hah (s' := upd S.s d (S.s d).view) (R' := fun j => if j = d then [] else G.R j) (fun j => ?_) (fun j => ?_) (fun j x hx => ?_) (hR.slotsNd d) (fun x hx => ⟨d, hx⟩)
            · simp only [upd]
              by_cases hj : j = d
              · simp only [hj, if_true]; exact (hR.slots d).view
              · simp only [hj, if_false]; exact hR.slots j
            · by_cases hj : j = d
              · simp [hj]
              · simp only [hj, if_false]; exact hR.slotsNd j
            · by_cases hj : j = d
              · simp [hj] at hx
              · simp only [hj, if_false] at hx
                refine ⟨hx, fun hx' => ?_⟩
                have h1 := hR.slotsOw j x hx
                rw [hR.slotsOw d x hx'] at h1; injection h1 with h1; injection h1 with h1; exact hj h1.symm
          · rename_i hnt
            injection h with h
            exact fin _ (plain [] (const_rows hR x (fun t e => hnt t e)) rfl) h
        · rename_i hown
          injection h with h
          obtain ⟨rn, hvx⟩ := hR.ev x
          exact fin _ (plain rn hvx (hvx.owns_rows (by simpa using hown))) h
      · cases h
    · cases h
  · cases h

end
end Go.AL
