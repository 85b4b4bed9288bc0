import Derived.Test.YtddncbgdoplgiaaGreatAlNm
namespace Go.AL
open Go.RowKit

section
variable {P : Program} {C : Ctx} {S : AS} {a : Act} {w w' : World} {G : Gh} {ρ : List Nat} {K : Nat → Nat}

/-! ### a load that takes what the object owns -/
def V.isOwn : V → Bool
  | .own _ _ _ => true
  | _ => false

def evTake (P : Program) (t : TypeId) (S : AS) (d : Nat) (p : V) : Option AS :=
  match p with
  | .ptr o off q =>
    match S.st[o]? with
    | some (.box v0) => (v0.at? q).bind fun r =>
      if r.1 = off ∧ tyS P t = some (r.2.isAgg, r.2.size) ∧ r.2.isOwn = true then some { S with s := upd S.s d r.2, st := S.st.set o (.box (v0.set q r.2.view)) } else none
    | _ => none
  | _ => none

theorem evTake_sound {o : Oper} {t : TypeId} {d : Nat} {x : Operand} {S' : AS} (ho : o.op = .load t x) (hdst : o.dst = some d) (hd : d < S.n) (h : evTake P t S d (S.ev x) = some S') : OpA P C o S (· = S') := by
  intro a w G next Q hR hn
  unfold evTake at h
  split at h
  · rename_i oo off q hx
    split at h
    · rename_i v0 hst
      simp only [Option.bind_eq_some_iff] at h
      obtain ⟨⟨o1, u⟩, hat, h⟩ := h
      simp only at h
      split at h
      · rename_i hc
        obtain ⟨rfl, ht, hown⟩ := hc
        injection h with h; subst h
        obtain ⟨rx, hxv⟩ := hR.ev x
        rw [hx] at hxv
        obtain ⟨b, hb, hxe, _⟩ := VR_ptr hxv
        obtain ⟨hw, cs, e, hheap, hcr⟩ := hR.obs oo (.box v0) b hst hb
        obtain ⟨g1, pre, post, g2, g3, g4⟩ := at_split q v0 o1 u hw hat
        have hfu : u.flat = [u] := by cases u <;> simp [V.isOwn] at hown <;> rfl
        have hfuv : u.view.flat = [u.view] := by rw [flat_view, hfu]; rfl
        have hsz : u.view.size = u.size := size_view u
        obtain ⟨k1, k2, k3⟩ := g4 u.view (wf_view u g1) hsz
        rw [g3] at hcr
        obtain ⟨r1, r23, hT, hcr1, hcr2⟩ := hcr.split
        obtain ⟨r2, r3, hT2, hcr3, hcr4⟩ := hcr2.split
        have hTall : G.T oo = r1 ++ (r2 ++ r3) := by rw [hT, hT2]
        have hlp : pre.length ≤ cs.toList.length := by
          have := hcr.length
          rw [this]; simp
        obtain ⟨y, h1, h2⟩ := run_loadVar (P := P) (off := o1) (b := b) ht g1 hcr3 (fun j c hj => by
          rw [cell?_of_cells hheap]
          have hj' : j < u.flat.length := by
            have := (List.getElem?_eq_some_iff.1 hj).1
            simp at this; omega
          rw [List.getElem?_take_of_lt hj', List.getElem?_drop, g2] at hj
          simpa using hj)
        unfold Oper.wp
        have hrun : (execOp a.eval o).run P w = .ok (.value y) w := by simp [execOp, ho, hxe, h1]
        rw [hrun, Oper.upon_value, hdst]
        have hnd := hR.obsNd oo
        rw [hTall] at hnd
        simp only [List.nodup_append, List.mem_append] at hnd
        have hin : ∀ x, x ∈ r2 → x ∈ G.T oo := fun x hx => by rw [hTall]; simp [hx]
        have hno : ∀ x, x ∈ r2 → x ∉ r1 ++ r3 := fun x hx hx' => by
          rcases List.mem_append.1 hx' with hx' | hx'
          · exact hnd.2.2 x hx' x (.inl hx) rfl
          · exact hnd.2.1.2.2 x hx x hx' rfl
        have hil : oo < S.st.length := (List.getElem?_eq_some_iff.1 hst).1
        have hcv : CRs G.ρ G.K w u.view.flat ((cs.toList.drop pre.length).take u.flat.length) [] := by
          have := hcr3.view
          rw [hfu] at this ⊢
          rw [hfuv]
          exact this
        have hnew : CRs G.ρ G.K w (v0.set q u.view).flat cs.toList (r1 ++ r3) := by
          rw [k3]
          have h5 := hcr1.append (hcv.append hcr4)
          have hcs : cs.toList = cs.toList.take pre.length ++ ((cs.toList.drop pre.length).take u.flat.length ++ (cs.toList.drop pre.length).drop u.flat.length) := by
            rw [List.take_append_drop, List.take_append_drop]
          rw [hcs]
          simpa using h5
        refine hn _ _ _ { G with R := fun j => if j = d then r2 else G.R j, T := fun k => if k = oo then r1 ++ r3 else G.T k, ow := fun x => if x ∈ r2 then some (.slot d) else G.ow x } rfl ?_
        refine { hR with tsz := ?_, slots := fun j => ?_, slotsOw := fun j x hx => ?_, slotsNd := fun j => ?_, len := by simp [hR.len], obs := fun k ob x hk hx => ?_, obsOw := fun k x hx => ?_, obsNd := fun k => ?_, ρOw := fun k x hx => ?_, ahead := fun k ob hk => ?_, ows := fun x l hx => ?_ }
        · simp [Act.put, hR.tsz]
        · simp only [Act.put, upd]
          rw [getD_setIfInBounds (by rw [hR.tsz]; exact hd)]
          by_cases hj : j = d
          · simp only [hj, if_true]; exact VR_of_VR0 h2
          · simp only [hj, if_false]; exact hR.slots j
        · by_cases hj : j = d
          · simp only [hj, if_true] at hx; simp [hx, hj]
          · simp only [hj, if_false] at hx
            have h6 := hR.slotsOw j x hx
            have : x ∉ r2 := fun hx' => by rw [hR.obsOw oo x (hin x hx')] at h6; injection h6 with h6; cases h6
            simp [this, h6]
        · by_cases hj : j = d
          · simp only [hj, if_true]; exact hnd.2.1.1
          · simp only [hj, if_false]; exact hR.slotsNd j
        · by_cases hk' : k = oo
          · subst hk'
            rw [hb] at hx; injection hx with hx; subst hx
            simp only [List.getElem?_set_self hil, Option.some.injEq] at hk
            subst hk
            simp only [if_true]
            exact ⟨k1, cs, e, hheap, hnew⟩
          · rw [List.getElem?_set_ne (Ne.symm hk')] at hk
            simp only [hk', if_false]
            exact hR.obs k ob x hk hx
        · by_cases hk' : k = oo
          · subst hk'
            simp only [if_true] at hx
            have h6 : x ∈ G.T k := by rw [hTall]; rcases List.mem_append.1 hx with h | h <;> simp [h]
            have : x ∉ r2 := fun hx' => hno x hx' hx
            simp [this, hR.obsOw k x h6]
          · simp only [hk', if_false] at hx
            have h6 := hR.obsOw k x hx
            have : x ∉ r2 := fun hx' => by rw [hR.obsOw oo x (hin x hx')] at h6; injection h6 with h6; injection h6 with h6; exact hk' h6.symm
            simp [this, h6]
        · by_cases hk' : k = oo
          · simp only [hk', if_true, List.nodup_append]
            exact ⟨hnd.1, hnd.2.1.2.1, fun x hx y hy => hnd.2.2 x hx y (.inr hy)⟩
          · simp only [hk', if_false]; exact hR.obsNd k
        · have h6 := hR.ρOw k x hx
          have : x ∉ r2 := fun hx' => by rw [hR.obsOw oo x (hin x hx')] at h6; have := h6.1; injection this with this; cases this
          simp [this, h6]
        · by_cases hk' : k = oo
          · subst hk'
            simp only [List.getElem?_set_self hil, Option.some.injEq] at hk
            subst hk
            have hv0 : v0.ahead k = true := hR.ahead k (.box v0) hst
            refine set_ahead q v0 u.view hv0 ?_
            rw [ahead_view]
            exact ahead_flat k v0 hv0 u (by rw [g3, hfu]; simp)
          · rw [List.getElem?_set_ne (Ne.symm hk')] at hk
            exact hR.ahead k ob hk
        · by_cases hx' : x ∈ r2
          · exact hR.ows x _ (hR.obsOw oo x (hin x hx'))
          · simp only [hx', if_false] at hx; exact hR.ows x l hx
      · cases h
    · cases h
  · cases h

end
end Go.AL
