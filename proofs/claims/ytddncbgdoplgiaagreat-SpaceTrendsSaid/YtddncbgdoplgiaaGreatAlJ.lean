import Derived.Test.YtddncbgdoplgiaaGreatAlI
import Derived.Lib.AppendStr
namespace Go.AL
open Go.RowKit

section
variable {P : Program} {C : Ctx} {S : AS} {a : Act} {w w' : World} {G : Gh} {ρ : List Nat} {K : Nat → Nat}

/-- a row of nobody's goes to a slot -/
theorem Rel.putRow (h : Rel C S a w G) {d b : Nat} (hd : d < S.n) {v : V} {x : Value} (hv : VR G.ρ G.K w v x [b]) (hno : G.ow b = none) (hb : b < w.heap.size) (hp : ¬ C.prot b) :
    Rel C (S.put d v) (a.put (some d) x) w { G with R := fun j => if j = d then [b] else G.R j, ow := fun y => if y = b then some (.slot d) else G.ow y } := by
  have hne : ∀ y l, G.ow y = some l → y ≠ b := fun y l hy e => by rw [e, hno] at hy; cases hy
  refine { h with tsz := ?_, slots := fun j => ?_, slotsOw := fun j y hy => ?_, slotsNd := fun j => ?_, obsOw := fun i y hy => ?_, ρOw := fun i y hy => ?_, ows := fun y l hy => ?_ }
  · simp [Act.put, AS.put, h.tsz]
  · simp only [Act.put, AS.put, upd]
    rw [getD_setIfInBounds (by rw [h.tsz]; exact hd)]
    by_cases hj : j = d
    · simp only [hj, if_true]; exact hv
    · simp only [hj, if_false]; exact h.slots j
  · by_cases hj : j = d
    · simp only [hj, if_true, List.mem_singleton] at hy; simp [hy, hj]
    · simp only [hj, if_false] at hy
      have := h.slotsOw j y hy
      simp [hne y _ this, this]
  · by_cases hj : j = d
    · simp [hj]
    · simp only [hj, if_false]; exact h.slotsNd j
  · have := h.obsOw i y hy; simp [hne y _ this, this]
  · have := h.ρOw i y hy; simp [hne y _ this.1, this]
  · by_cases hyb : y = b
    · subst hyb; exact ⟨hb, hp⟩
    · simp only [hyb, if_false] at hy; exact h.ows y l hy

/-- a row that was just made -/
theorem Rel.newRow (h : Rel C S a w G) {K' : Nat → Nat} (hs : w.heap.size ≤ w'.heap.size) (ho : ∀ b, b < w.heap.size → w'.heap[b]? = w.heap[b]?)
    (hK : ∀ b, b < w.heap.size → K' b = G.K b) (hf : ∀ b, w'.heap.size ≤ b → K' b = 0) (hos : w'.os = w.os) (htape : w'.tape = w.tape) (hout : w'.output = w.output)
    {d b : Nat} (hd : d < S.n) (hb : w.heap.size ≤ b) (hb' : b < w'.heap.size) {v : V} {x : Value} (hv : VR G.ρ K' w' v x [b]) :
    ∃ G', Rel C (S.put d v) (a.put (some d) x) w' G' := by
  have h1 := h.ext hs ho hK hf hos htape hout
  exact ⟨_, h1.putRow hd hv (ow_new h hb) hb' (fun hp => by have := (h.prot b hp).1; have := h.size; omega)⟩

/-- cells of a new block -/
theorem CR_own_new {e k : Nat} {xs : List V} {cs : List Value} {K' : Nat → Nat} (hK : ∀ b, K b ≤ K' b)
    (h0 : 0 < k) (hw : V.wfs xs) (hk : ∀ x ∈ xs, x.size = k) (hc : CRs ρ K w (V.flats xs) cs []) (more : List Value) {c : Nat} (hcap : cs.length + more.length = c * k) (hcm : c ≤ maxLen)
    (hKb : K' w.heap.size = (V.flats xs).length) (hold : ∀ b off, off < K b → w'.cell? ⟨b, off, none⟩ = w.cell? ⟨b, off, none⟩)
    (hb : w'.heap[w.heap.size]? = some (.cells (cs ++ more).toArray e (0, 0))) :
    CR ρ K' w' (.own e k xs) (.slice (some ⟨w.heap.size, 0, none⟩) xs.length c) [w.heap.size] := by
  obtain ⟨hl, hv⟩ := CRs.nil_iff.1 hc
  have hlen : cs.length = xs.length * k := by rw [hl, flats_length _ hw, sizes_const hk]
  refine .own xs w.heap.size c k (fun i => cs.getD i undef) _ e h0 ?_ hcm hw hk (fun i u hu => ?_) hb (fun i hi => ?_) (by simp [hcap]) hKb
  · have : xs.length * k ≤ c * k := by rw [← hlen, ← hcap]; omega
    exact Nat.le_of_mul_le_mul_right this h0
  · exact (hv i u hu).mono (fun _ _ h => h) hold hK (by simp)
  · have : i < cs.length := by omega
    simp [List.getElem?_append_left this, List.getD, this]

/-! ### what is appended -/
def AS.src (S : AS) : V → Option (List V)
  | .list xs => some xs
  | .own _ _ xs => some xs
  | .str s => some (V.ofBytes s)
  | .bsl o off p lo len =>
    match S.st[o]? with
    | some (.box v) =>
      (v.at? p).bind fun r =>
        match r.2 with
        | .arr n k xs => if off = r.1 + lo * k ∧ lo + len ≤ n then some (V.views ((xs.drop lo).take len)) else none
        | _ => none
    | _ => none
  | _ => none

theorem flats_ofBytes (s : List UInt8) : V.flats (V.ofBytes s) = V.ofBytes s := by
  induction s with
  | nil => rfl
  | cons b s ih => simp only [V.ofBytes, List.map_cons, V.flats, V.flat] at *; rw [ih]; rfl

theorem CRs_strCells (s : List UInt8) : CRs ρ K w (V.ofBytes s) (Lib.strCells ⟨s.toArray⟩) [] := by
  refine CRs.nil_iff.2 ⟨by rw [Lib.strCells_length]; simp [V.ofBytes, ByteArray.size], fun i u hu => ?_⟩
  simp only [V.ofBytes, List.getElem?_map, Option.map_eq_some_iff] at hu
  obtain ⟨b, hb, rfl⟩ := hu
  have : (Lib.strCells ⟨s.toArray⟩).getD i undef = .int .u8 b.toNat := by
    simp only [Lib.strCells, List.getD_eq_getElem?_getD]
    simp [hb]
  rw [this]; exact .int _ _

theorem src_spec (hR : Rel C S a w G) {v : V} {x : Value} {r : List Nat} (hx : VR G.ρ G.K w v x r) {ys : List V} (h : S.src v = some ys) {k : Nat} (hk : ∀ y ∈ ys, y.size = k) :
    V.wfs ys ∧ ∃ news, CRs G.ρ G.K w (V.flats ys) news [] ∧ (Builtin.lenOf x).run P w = .ok ys.length w ∧
      (∀ W : World, (∀ b : Nat, W.heap[b]? = w.heap[b]?) → (Builtin.firstCells k ys.length x).run P W = .ok news.toArray W) := by
  have slice : ∀ zs, v.elems? = some zs → zs = ys → V.wfs ys ∧ ∃ news, CRs G.ρ G.K w (V.flats ys) news [] ∧ (Builtin.lenOf x).run P w = .ok ys.length w ∧
      (∀ W : World, (∀ b : Nat, W.heap[b]? = w.heap[b]?) → (Builtin.firstCells k ys.length x).run P W = .ok news.toArray W) := by
    rintro zs hv rfl
    rcases VR_slice hv hx with ⟨ad, c, rfl, rfl⟩ | ⟨b, off, c, k', vs, rfl, hc, hw, hkk, hcr, hcell⟩
    · refine ⟨by simp [V.wfs], [], rfl, rfl, fun W _ => ?_⟩
      cases ad with
      | none => simp [Builtin.firstCells]
      | some ad => simp [Builtin.firstCells, loadCells, loadCellsFrom]
    · refine ⟨hw, _, CRs_of_fn hcr, rfl, fun W hW => ?_⟩
      refine run_firstCells_some (P := P) W k _ ⟨b, off, none⟩ _ c _ ?_ fun j c' hj => ?_
      · simp only [List.length_map, List.length_range]
        rw [flats_length _ hw, sizes_const hk]
      · have hlt : j < (V.flats zs).length := by have := (List.getElem?_eq_some_iff.1 hj).1; simpa using this
        have hc' : c' = vs j := by have := (List.getElem?_eq_some_iff.1 hj).2; simpa using this.symm
        rw [addr_add, hc']
        have := (hcell j hlt).1
        simp only [World.cell?] at this ⊢
        rw [hW b]; exact this
  unfold AS.src at h
  split at h
  · injection h with h; exact slice _ rfl h
  · injection h with h; exact slice _ rfl h
  · rename_i s
    injection h with h; subst h
    obtain ⟨rfl, _⟩ := VR_str hx
    have hsz : (ByteArray.mk s.toArray).size = s.length := by simp [ByteArray.size]
    have hl : (V.ofBytes s).length = (ByteArray.mk s.toArray).size := by simp [V.ofBytes, hsz]
    refine ⟨wfs_iff.2 fun y hy => ?_, Lib.strCells ⟨s.toArray⟩, by rw [flats_ofBytes]; exact CRs_strCells s, by simp [Builtin.lenOf, hl], fun W _ => ?_⟩
    · simp only [V.ofBytes, List.mem_map] at hy
      obtain ⟨b, _, rfl⟩ := hy; simp [V.wf]
    · rw [hl]; exact Lib.run_firstCells_string W k _
  · rename_i o off p lo len
    obtain ⟨b, c, hb, hlc, rfl, _⟩ := VR_bsl hx
    split at h
    · rename_i v0 hst
      simp only [Option.bind_eq_some_iff] at h
      obtain ⟨⟨o1, u1⟩, hat, h⟩ := h
      simp only at h
      split at h
      · rename_i n k' xs
        split at h
        · rename_i hc
          injection h with h; subst h
          obtain ⟨hw, cs, e, hheap, hcr⟩ := hR.obs o (.box v0) b hst hb
          obtain ⟨g1, pre, post, g2, g3, _⟩ := at_split p v0 o1 _ hw hat
          simp only [V.wf] at g1
          obtain ⟨hn, hwx, hkx⟩ := g1
          obtain ⟨q1, q2⟩ := flats_drop_take (xs := xs) (l := lo) (h := lo + len) hwx hkx (by omega) (by omega)
          have htd : (xs.take (lo + len)).drop lo = (xs.drop lo).take len := by rw [List.drop_take]; simp
          rw [htd] at q1
          have hmem : ∀ y ∈ (xs.drop lo).take len, y ∈ xs := fun y hy => List.mem_of_mem_drop (List.mem_of_mem_take hy)
          have hws : V.wfs ((xs.drop lo).take len) := wfs_iff.2 fun y hy => wfs_iff.1 hwx y (hmem y hy)
          have hlen : ((xs.drop lo).take len).length = len := by simp; omega
          have hvl : (V.views ((xs.drop lo).take len)).length = len := by rw [views_map]; simpa using hlen
          rw [g3] at hcr
          simp only [V.flat] at hcr
          obtain ⟨r1, r2, _, _, hcr2⟩ := hcr.split
          rw [q1] at hcr2
          simp only [List.append_assoc] at hcr2
          obtain ⟨r3, r4, _, _, hcr4⟩ := hcr2.split
          obtain ⟨r5, r6, _, hcr5, _⟩ := hcr4.split
          have hnews := hcr5.view
          rw [← flats_views] at hnews
          refine ⟨wfs_views _ hws, _, hnews, by simp [Builtin.lenOf, hvl], fun W hW => ?_⟩
          rw [hvl]
          refine run_firstCells_some (P := P) W k len ⟨b, off, none⟩ len c _ ?_ fun j c' hj => ?_
          · rw [hnews.length, flats_length _ (wfs_views _ hws), sizes_const hk, hvl]
          · rw [addr_add]
            have hlt := (List.getElem?_eq_some_iff.1 hj).1
            have hj' : j < (V.flats ((xs.drop lo).take len)).length := by simp only [List.length_take] at hlt; omega
            rw [List.getElem?_take_of_lt hj', List.getElem?_drop, List.getElem?_drop, q2, g2] at hj
            have : W.cell? ⟨b, off + j, none⟩ = cs[off + j]? := cell?_of_cells ((hW b).trans hheap)
            rw [this, hc.1]
            simpa [Nat.add_assoc] using hj
        · cases h
      · cases h
    · cases h
  · cases h

end
end Go.AL
