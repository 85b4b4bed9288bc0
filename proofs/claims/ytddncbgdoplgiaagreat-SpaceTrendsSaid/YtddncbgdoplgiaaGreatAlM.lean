import Derived.Test.YtddncbgdoplgiaaGreatAlL
namespace Go.AL
open Go.RowKit

section
variable {P : Program} {C : Ctx} {S : AS} {a : Act} {w w' : World} {G : Gh} {ρ : List Nat} {K : Nat → Nat}

/-! ### a slice's literal -/
theorem fill_all {k : Nat} : ∀ (vals : List Value) (i : Nat) (cells : Array Value), (∀ v ∈ vals, v.cells.size = k) → cells.size = (i + vals.length) * k →
    Instr.fill (fun j => some (j * k, k)) cells (vals.zipIdx i |>.map fun q => (q.2, q.1)) = some (cells.toList.take (i * k) ++ (vals.map fun v => v.cells.toList).flatten).toArray
  | [], i, cells, _, hs => by
    simp only [List.zipIdx_nil, List.map_nil, Instr.fill, List.flatten_nil, List.append_nil]
    have : cells.toList.length = i * k := by simpa using hs
    rw [← this, List.take_length]
  | v :: vals, i, cells, hv, hs => by
    simp only [List.zipIdx_cons, List.map_cons]
    have hvk := hv v (by simp)
    have hle : i * k + k ≤ cells.size := by rw [hs, ← Nat.succ_mul]; exact Nat.mul_le_mul_right _ (by simp)
    rw [fill_one (place := fun j => some (j * k, k)) (i := i) (off := i * k) (size := k) rfl hvk hle]
    have hvl : v.cells.toList.length = k := by simpa using hvk
    have htl : (cells.toList.take (i * k)).length = i * k := by rw [List.length_take]; simp; omega
    rw [fill_all vals (i + 1) _ (fun u hu => hv u (by simp [hu])) (by
      simp only [List.size_toArray, List.length_append, htl, hvl, List.length_drop, Array.length_toList, hs, List.length_cons]
      have : (i + 1 + vals.length) * k = (i + (vals.length + 1)) * k := by congr 1; omega
      rw [this]; rw [hs] at hle; simp only [List.length_cons] at hle; omega)]
    congr 2
    rw [show (i + 1) * k = i * k + k from Nat.succ_mul i k]
    have : (cells.toList.take (i * k) ++ (v.cells.toList ++ cells.toList.drop (i * k + k))).take (i * k + k) = cells.toList.take (i * k) ++ v.cells.toList := by
      rw [← List.append_assoc]
      exact List.take_left' (by rw [List.length_append, htl, hvl])
    rw [this]; simp

theorem CRs_concat {vs : List V} {xs : List Value} (h : ∀ (i : Nat) v x, vs[i]? = some v → xs[i]? = some x → VR0 ρ K w v x []) (hl : xs.length = vs.length) :
    V.wfs vs ∧ CRs ρ K w (V.flats vs) (xs.map fun x => x.cells.toList).flatten [] := by
  induction vs generalizing xs with
  | nil =>
    obtain rfl : xs = [] := by simpa using hl
    exact ⟨by simp [V.wfs], rfl⟩
  | cons v vs ih =>
    cases xs with
    | nil => simp at hl
    | cons x xs =>
      obtain ⟨h1, h2⟩ := ih (xs := xs) (fun i v x hv hx => h (i + 1) v x (by simpa using hv) (by simpa using hx)) (by simpa using hl)
      obtain ⟨g1, g2, _⟩ := VR0_cells (h 0 v x rfl rfl)
      exact ⟨by simp [V.wfs, g1, h1], by simpa [V.flats] using g2.append h2⟩

/-- a fresh row in a slot -/
theorem Rel.freshRow (hR : Rel C S a w G) {d e k c : Nat} (hd : d < S.n) (h0 : 0 < k) {xs : List V} (hw : V.wfs xs) (hk : ∀ x ∈ xs, x.size = k) {cs : List Value} (hc : CRs G.ρ G.K w (V.flats xs) cs [])
    (more : List Value) (hcap : cs.length + more.length = c * k) (hcm : c ≤ maxLen) (W : World) (hW : W = w ∨ W = w.drew) :
    ∃ G', Rel C (S.put d (.own e k xs)) (a.put (some d) (.slice (some ⟨w.heap.size, 0, none⟩) xs.length c)) (W.alloc (.cells (cs ++ more).toArray e)) G' := by
  have hWs : W.heap.size = w.heap.size := by rcases hW with rfl | rfl <;> rfl
  have hWh : ∀ b : Nat, W.heap[b]? = w.heap[b]? := fun b => by rcases hW with rfl | rfl <;> rfl
  have hnew : (W.alloc (.cells (cs ++ more).toArray e)).heap[w.heap.size]? = some (.cells (cs ++ more).toArray e (0, 0)) := by
    rw [← hWs]; exact heap_alloc_new W _
  have hold : ∀ b : Nat, b < w.heap.size → (W.alloc (.cells (cs ++ more).toArray e)).heap[b]? = w.heap[b]? := fun b hb => by
    rw [Below.heap_alloc _ _ _ (by rw [hWs]; exact hb)]; exact hWh b
  have hKK : ∀ b, G.K b ≤ (if b = w.heap.size then (V.flats xs).length else G.K b) := fun b => by
    by_cases hb : b = w.heap.size
    · rw [hb, hR.fresh _ (Nat.le_refl _)]; omega
    · simp [hb]
  have hcold : ∀ b off, off < G.K b → (W.alloc (.cells (cs ++ more).toArray e)).cell? ⟨b, off, none⟩ = w.cell? ⟨b, off, none⟩ := fun b off hlt => by
    rcases Nat.lt_or_ge b w.heap.size with hb | hb
    · simp only [World.cell?]; rw [hold b hb]
    · rw [hR.fresh b hb] at hlt; omega
  have hv := CR_own_new (ρ := G.ρ) (K := G.K) (w := w) (w' := W.alloc (.cells (cs ++ more).toArray e)) (e := e) (K' := fun b => if b = w.heap.size then (V.flats xs).length else G.K b) hKK h0 hw hk hc more hcap hcm (by simp) hcold hnew
  exact hR.newRow (K' := fun b => if b = w.heap.size then (V.flats xs).length else G.K b) (by simp [hWs]) hold (fun b hb => by simp [Nat.ne_of_lt hb]) (fun b hb => by
    have hb' : w.heap.size + 1 ≤ b := by simpa [hWs] using hb
    have : b ≠ w.heap.size := by omega
    simp only [this, if_false]; exact hR.fresh b (by omega)) (by rcases hW with rfl | rfl <;> rfl) (by rcases hW with rfl | rfl <;> rfl) (by rcases hW with rfl | rfl <;> rfl) hd (Nat.le_refl _) (by simp [hWs]) (VR.of_cell hv)

def evBuildSlice (P : Program) (t : TypeId) (len : Nat) (S : AS) (d : Nat) (parts : List (Nat × Operand)) : Option AS :=
  (slcS P t).bind fun e => (elS P e).bind fun q =>
    if parts.map (·.1) = List.range len ∧ 0 < q.1 ∧ len * q.1 ≤ 16777216 ∧ (parts.all fun p => (S.ev p.2).isVal && decide ((S.ev p.2).size = q.1)) = true then
      some (S.put d (.own e q.1 (parts.map fun p => (S.ev p.2).view)))
    else none

theorem evBuildSlice_sound {o : Oper} {t : TypeId} {len d : Nat} {parts : Array (Nat × Operand)} {S' : AS} (ho : o.op = .buildSlice t len parts) (hdst : o.dst = some d) (hd : d < S.n)
    (h : evBuildSlice P t len S d parts.toList = some S') : OpA P C o S (· = S') := by
  intro a w G next Q hR hn
  unfold evBuildSlice at h
  simp only [Option.bind_eq_some_iff] at h
  obtain ⟨e, he, q, hq, h⟩ := h
  split at h
  · rename_i hc
    injection h with h; subst h
    obtain ⟨hrange, h0, hsmall, hall⟩ := hc
    obtain ⟨i, z, hi, hz, hzs, hi1, hi2⟩ := elS_spec hq
    have ht := slcS_spec he
    have hlen : parts.toList.length = len := by have := congrArg List.length hrange; simpa using this
    have hparts : ∀ (j : Nat) v x, (parts.toList.map fun p => (S.ev p.2).view)[j]? = some v → (parts.toList.map fun p => a.eval p.2)[j]? = some x → VR0 G.ρ G.K w v x [] := by
      intro j v x h1 h2
      simp only [List.getElem?_map, Option.map_eq_some_iff] at h1 h2
      obtain ⟨p, hp, rfl⟩ := h1
      obtain ⟨p', hp', rfl⟩ := h2
      rw [hp] at hp'; injection hp' with hp'; subst hp'
      obtain ⟨r, hv⟩ := hR.ev p.2
      have := (List.all_eq_true.1 hall) p (List.mem_of_getElem? hp)
      simp only [Bool.and_eq_true] at this
      exact VR_val hv.view (by rw [isVal_view]; exact this.1)
    have hsz : ∀ v ∈ parts.toList.map fun p => (S.ev p.2).view, v.size = q.1 := by
      intro v hv
      simp only [List.mem_map] at hv
      obtain ⟨p, hp, rfl⟩ := hv
      have := (List.all_eq_true.1 hall) p hp
      simp only [Bool.and_eq_true, decide_eq_true_eq] at this
      rw [size_view]; exact this.2
    obtain ⟨hw, hcr⟩ := CRs_concat hparts (by simp)
    have hxs : ∀ x ∈ parts.toList.map fun p => a.eval p.2, x.cells.size = q.1 := by
      intro x hx
      obtain ⟨j, hj, hjx⟩ := List.getElem_of_mem hx
      have h1 := hparts j ((parts.toList.map fun p => (S.ev p.2).view)[j]'(by simpa using hj)) x (List.getElem?_eq_getElem _) (by rw [← hjx]; exact List.getElem?_eq_getElem _)
      obtain ⟨g1, g2, _⟩ := VR0_cells h1
      have := g2.length
      rw [flat_length _ g1, hsz _ (List.getElem_mem _)] at this
      simpa using this
    have hvals : (parts.map fun p => (p.1, a.eval p.2)).toList = ((parts.toList.map fun p => a.eval p.2).zipIdx 0).map fun q => (q.2, q.1) := by
      apply List.ext_getElem?
      intro j
      simp only [Array.toList_map, List.getElem?_map, List.getElem?_zipIdx]
      cases hp : parts.toList[j]? with
      | none => simp
      | some p =>
        have : (parts.toList.map (·.1))[j]? = some p.1 := by simp [hp]
        rw [hrange, List.getElem?_range (by rw [← hlen]; exact (List.getElem?_eq_some_iff.1 hp).1)] at this
        injection this with this
        simp [← this]
    have hfill : ∀ zs : Array Value, Instr.fill (fun j => some (j * q.1, q.1)) ((Array.range (len * q.1)).map (fun j => zs[j % zs.size]!)) (parts.map fun p => (p.1, a.eval p.2)).toList =
        some (((parts.toList.map fun p => a.eval p.2).map fun v => v.cells.toList).flatten).toArray := fun zs => by
      rw [hvals, fill_all (k := q.1) (parts.toList.map fun p => a.eval p.2) 0 _ hxs (by simp [hlen])]
      simp
    have hrun : (execOp a.eval o).run P w = .ok (.value (.slice (some ⟨w.heap.size, 0, none⟩) len len)) (w.alloc (.cells ((parts.toList.map fun p => a.eval p.2).map fun x => x.cells.toList).flatten.toArray e)) := by
      have hns : ¬ (16777216 < len * q.1) := by omega
      simp only [execOp, ho, Instr.buildSlice, Sem.run_bind, run_underlying ht, Result.andThen_ok, sizeOf, typeInfo, run_program, hi, Sem.run_pure, hi1, Nat.reducePow, gt_iff_lt, hns, if_false]
      by_cases hz0 : len * q.1 = 0
      · rw [if_pos hz0]
        simp only [Sem.run_bind, Sem.run_pure, Result.andThen_ok, hfill]
        simp [newRow]
      · rw [if_neg hz0]
        have hzr : (zeroValue e).run P w = .ok z w := by simp [zeroValue, typeInfo, hi, hz]
        simp only [Sem.run_bind, hzr, Sem.run_pure, Result.andThen_ok, hfill]
        simp [newRow]
    obtain ⟨G', hG⟩ := hR.freshRow (e := e) (k := q.1) (c := len) hd h0 hw hsz hcr [] (by rw [hcr.length, flats_length _ hw, sizes_const hsz]; simp [hlen]) (by
      have : len ≤ len * q.1 := Nat.le_mul_of_pos_right _ h0
      simp only [maxLen]; omega) w (.inl rfl)
    unfold Oper.wp
    rw [hrun, Oper.upon_value, hdst]
    simp only [List.append_nil, List.length_map, hlen] at hG
    exact hn _ _ _ _ rfl hG
  · cases h

/-! ### make([]T, n) of one-cell elements -/
def evMakeSlice (P : Program) (t : TypeId) (S : AS) (d : Nat) (l c : Operand) : Option AS :=
  (slcS P t).bind fun e => (elS P e).bind fun q => (zeroOf P e).bind fun z =>
    match S.ev l, S.ev c with
    | .int _ n, .int _ m =>
      if q.1 = 1 ∧ 0 ≤ n ∧ n ≤ m ∧ (q.2 : Int) * m ≤ 281474976710656 ∧ m ≤ 9223372036854775807 then some (S.put d (.own e 1 (List.replicate n.toNat z))) else none
    | _, _ => none

theorem evMakeSlice_sound {o : Oper} {t : TypeId} {d : Nat} {l c : Operand} {S' : AS} (ho : o.op = .makeSlice t l c) (hdst : o.dst = some d) (hd : d < S.n)
    (h : evMakeSlice P t S d l c = some S') : OpA P C o S (· = S') := by
  intro a w G next Q hR hn
  unfold evMakeSlice at h
  simp only [Option.bind_eq_some_iff] at h
  obtain ⟨e, he, q, hq, z, hz0, h⟩ := h
  split at h
  · rename_i _ _ kl n kc m hl hc
    split at h
    · rename_i hcd
      injection h with h; subst h
      obtain ⟨hq1, hn0, hnm, hb, h63⟩ := hcd
      obtain ⟨i, zv, hi, hz, hzs, hi1, hi2⟩ := elS_spec hq
      have ht := slcS_spec he
      obtain ⟨rl, hvl⟩ := hR.ev l
      obtain ⟨rc, hvc⟩ := hR.ev c
      rw [hl] at hvl; rw [hc] at hvc
      obtain ⟨el, _⟩ := VR_int hvl
      obtain ⟨ec, _⟩ := VR_int hvc
      obtain ⟨hw, hty, _, z', hzr, hzc, _⟩ := zeroOf_spec (w := w) (ρ := G.ρ) (K := G.K) hz0
      have hzz : z' = zv := by simp [zeroValue, typeInfo, hi, hz] at hzr; exact hzr.symm
      subst hzz
      have hzlen : z'.cells.toList.length = 1 := by rw [Array.length_toList, hzs, hi1, hq1]
      obtain ⟨zc, hzc1⟩ := List.length_eq_one_iff.1 hzlen
      have hzsize : z.size = 1 := by rw [← flat_length z hw, ← hzc.length, hzlen]
      have hrun := run_make (P := P) w t e i z' ht hi hz kl kc n m hn0 hnm (by rw [hi2]; exact hb) h63
      have hmc : (madeCells z'.cells (m.toNat * i.size)) = (List.replicate n.toNat zc ++ List.replicate (m.toNat - n.toNat) zc).toArray := by
        apply Array.ext'
        rw [hi1, hq1, Nat.mul_one]
        have hz1 : z'.cells = #[zc] := Array.ext' (by simpa using hzc1)
        simp only [madeCells, hz1]
        rw [List.replicate_append_replicate]
        have : n.toNat + (m.toNat - n.toNat) = m.toNat := by omega
        rw [this]
        apply List.ext_getElem?
        intro j
        by_cases hj : j < m.toNat
        · simp [hj, Nat.mod_one]
        · simp [hj]
      have hrep : CRs G.ρ G.K w (V.flats (List.replicate n.toNat z)) (List.replicate n.toNat zc) [] := by
        rw [hzc1] at hzc
        generalize n.toNat = k
        induction k with
        | zero => simp [V.flats, CRs]
        | succ k ih => simpa [List.replicate_succ, V.flats] using hzc.append ih
      obtain ⟨G', hG⟩ := hR.freshRow (e := e) (k := 1) (c := m.toNat) (xs := List.replicate n.toNat z) hd (by omega) (wfs_iff.2 fun x hx => by rw [(List.mem_replicate.1 hx).2]; exact hw) (fun x hx => by rw [(List.mem_replicate.1 hx).2]; exact hzsize) hrep
        (List.replicate (m.toNat - n.toNat) zc) (by simp; omega) (by simp only [maxLen]; omega) w (.inl rfl)
      unfold Oper.wp
      have : (execOp a.eval o).run P w = .ok (.value (.slice (some ⟨w.heap.size, 0, none⟩) n.toNat m.toNat)) (w.alloc (.cells (madeCells z'.cells (m.toNat * i.size)) e)) := by
        simp [execOp, ho, el, ec, hrun]
      rw [this, Oper.upon_value, hdst, hmc]
      simp only [List.length_replicate] at hG
      exact hn _ _ _ _ rfl hG
    · cases h
  · cases h

end
end Go.AL
